/- Texts of the proof, one behind the other. Conditions: none. -/
import Derived.Test.YtooaiddfokbffaaA0
import Derived.OrdersIn
import Derived.ControlIn
import Derived.TacticsIn
import Derived.LoopNIn
import Derived.RangeFuncRecord
import Derived.LoopN
import Derived.Orders
/- The model's operation follows the abstract one: every operation that is taken. Conditions: none. -/
set_option linter.unusedVariables false
set_option linter.unusedSimpArgs false
namespace Go.Proofs.Ytooaiddfokbffaa.E
open Go

section
variable {e : Emb} {w : World} {H : AHeap} {P : Program} {tm : Nat → AV} {a : Act}

set_option maxHeartbeats 1000000 in
theorem aop_sound (hH : HRel e H w) (hT : TRel e w tm a) (o : Oper) {ao : AOp} (hc : compOp P o.op = some ao) {r : AV} {H' : AHeap} (h : aop tm H ao = some (r, H')) : OpGoes P a.eval o e w r H' := by
  have stay : ∀ {u : Value} {x : AV}, (execOp a.eval o).run P w = .ok (.value u) w → VRel e w x u → OpGoes P a.eval o e w x H := fun hr hx => ⟨_, w, e, .inl hr, hH, hx, Evo.refl e w⟩
  cases ho : o.op with
  | move x =>
    rw [ho] at hc
    simp only [compOp, Option.map_eq_some_iff] at hc
    obtain ⟨y, hy, rfl⟩ := hc
    simp only [aop, Option.some.injEq, Prod.mk.injEq] at h
    obtain ⟨rfl, rfl⟩ := h
    exact stay (by simp [execOp, ho]) (carg_rel hT hy)
  | assign x =>
    rw [ho] at hc
    simp only [compOp, Option.map_eq_some_iff] at hc
    obtain ⟨y, hy, rfl⟩ := hc
    simp only [aop, Option.some.injEq, Prod.mk.injEq] at h
    obtain ⟨rfl, rfl⟩ := h
    exact stay (by simp [execOp, ho]) (carg_rel hT hy)
  | pick c x y =>
    rw [ho] at hc
    simp only [compOp] at hc
    split at hc
    · rename_i c' x' y' h1 h2 h3
      injection hc with hc
      subst hc
      simp only [aop] at h
      split at h
      · rename_i t e1
        simp only [Option.some.injEq, Prod.mk.injEq] at h
        obtain ⟨rfl, rfl⟩ := h
        have hv := carg_rel hT h1
        rw [e1] at hv
        generalize hu : a.eval c = u at *
        cases hv
        refine stay (by simp [execOp, ho, hu, asBool]; rfl) ?_
        cases t
        · simpa using carg_rel hT h3
        · simpa using carg_rel hT h2
      · cases h
    · cases hc
  | alloc t =>
    rw [ho] at hc
    simp only [compOp, Option.map_eq_some_iff] at hc
    obtain ⟨z, hz, rfl⟩ := hc
    simp only [aop, Option.some.injEq, Prod.mk.injEq] at h
    obtain ⟨rfl, rfl⟩ := h
    exact .of (go_alloc hH hz) fun u w' hr => by simp [execOp, ho, hr]
  | box t x =>
    rw [ho] at hc
    simp only [compOp, Option.map_eq_some_iff] at hc
    obtain ⟨y, hy, rfl⟩ := hc
    simp only [aop, Option.some.injEq, Prod.mk.injEq] at h
    obtain ⟨rfl, rfl⟩ := h
    exact .of (go_box hH t (carg_rel hT hy)) fun u w' hr => by simp [execOp, ho, hr]
  | build t parts =>
    rw [ho] at hc
    simp only [compOp] at hc
    split at hc
    · rename_i fs z ht hz
      split at hc
      · rename_i hall
        simp only [Option.map_eq_some_iff] at hc
        obtain ⟨ps, hps, rfl⟩ := hc
        simp only [aop, Option.map_eq_some_iff, Prod.mk.injEq] at h
        obtain ⟨cs, h1, rfl, rfl⟩ := h
        exact .of (go_build hH hT hz hps (.inl ⟨fs, ht, hall, rfl⟩) h1) fun u w' hr => by simp [execOp, ho, hr]
      · cases hc
    · rename_i n el z ht hz
      split at hc
      · rename_i m hm
        simp only [Option.map_eq_some_iff] at hc
        obtain ⟨ps, hps, rfl⟩ := hc
        simp only [aop, Option.map_eq_some_iff, Prod.mk.injEq] at h
        obtain ⟨cs, h1, rfl, rfl⟩ := h
        exact .of (go_build hH hT hz hps (.inr ⟨n, el, m, ht, hm, rfl⟩) h1) fun u w' hr => by simp [execOp, ho, hr]
      · cases hc
    · cases hc
  | buildSlice t n parts =>
    rw [ho] at hc
    simp only [compOp] at hc
    split at hc
    · rename_i el ht
      split at hc
      · rename_i es z hs hz
        split at hc
        · rename_i hcond
          simp only [Option.map_eq_some_iff] at hc
          obtain ⟨ps, hps, rfl⟩ := hc
          simp only [aop, Option.map_eq_some_iff, Prod.mk.injEq] at h
          obtain ⟨cs, h1, rfl, rfl⟩ := h
          exact .of (go_buildS hH hT ht hz hs hcond.2.1 hcond.2.2 hcond.1 hps h1) fun u w' hr => by simp [execOp, ho, hr]
        · cases hc
      · cases hc
    · cases hc
  | load t x =>
    rw [ho] at hc
    simp only [compOp] at hc
    split at hc
    · rename_i d n ht hs
      simp only [Option.map_eq_some_iff] at hc
      obtain ⟨y, hy, rfl⟩ := hc
      simp only [aop, Option.map_eq_some_iff, Prod.mk.injEq] at h
      obtain ⟨z, h1, rfl, rfl⟩ := h
      exact .of (go_load hH ht hs (carg_rel hT hy) h1) fun u w' hr => by simp [execOp, ho, hr]
    · cases hc
  | store t x y =>
    rw [ho] at hc
    simp only [compOp] at hc
    split at hc
    · rename_i n x' y' hs hx hy
      injection hc with hc
      subst hc
      simp only [aop, Option.map_eq_some_iff, Prod.mk.injEq] at h
      obtain ⟨H1, h1, rfl, rfl⟩ := h
      obtain ⟨w', h2, h3, h4⟩ := astore_rel (P := P) hH hs (carg_rel hT hx) (carg_rel hT hy) h1
      exact ⟨undef, w', e, .inr ⟨by simp [execOp, ho, h2], rfl⟩, h3, VRel.uv, h4⟩
    · cases hc
  | nilCheck x =>
    rw [ho] at hc
    simp only [compOp, Option.map_eq_some_iff] at hc
    obtain ⟨y, hy, rfl⟩ := hc
    have hv := carg_rel hT hy
    simp only [aop] at h
    generalize hu : a.eval x = u at *
    split at h <;> simp only [Option.some.injEq, Prod.mk.injEq, reduceCtorEq] at h
    all_goals (obtain ⟨rfl, rfl⟩ := h; rename_i e1; rw [e1] at hv; have hv' := hv; cases hv'; exact stay (by simp [execOp, ho, hu]) hv)
  | binOp op t x y t' =>
    rw [ho] at hc
    simp only [compOp] at hc
    have hg := sound_bin (P := P) hH hT hc h
    exact .of hg fun u w' hr => by
      simp only [execOp, ho, Sem.run_bind] at hr ⊢
      rw [hr]
      rfl
  | unOp op t x =>
    rw [ho] at hc
    cases op <;> simp only [compOp, Option.map_eq_some_iff, reduceCtorEq] at hc
    · obtain ⟨y, hy, rfl⟩ := hc
      have hv := carg_rel hT hy
      simp only [aop] at h
      split at h
      · rename_i k n e1
        simp only [Option.some.injEq, Prod.mk.injEq] at h
        obtain ⟨rfl, rfl⟩ := h
        rw [e1] at hv
        generalize hu : a.eval x = u at *
        cases hv
        exact stay (by simp [execOp, ho, hu, Op.unary, Op.intArith]) (.v _ rfl)
      · cases h
    · obtain ⟨y, hy, rfl⟩ := hc
      have hv := carg_rel hT hy
      simp only [aop] at h
      split at h
      · rename_i b e1
        simp only [Option.some.injEq, Prod.mk.injEq] at h
        obtain ⟨rfl, rfl⟩ := h
        rw [e1] at hv
        generalize hu : a.eval x = u at *
        cases hv
        exact stay (by simp [execOp, ho, hu, Op.unary]) (.v _ rfl)
      · cases h
  | convert s d x =>
    rw [ho] at hc
    simp only [compOp] at hc
    split at hc
    · rename_i sd k hs hd
      simp only [Option.map_eq_some_iff] at hc
      obtain ⟨y, hy, rfl⟩ := hc
      have hv := carg_rel hT hy
      simp only [aop] at h
      split at h
      · rename_i k' n e1
        simp only [Option.some.injEq, Prod.mk.injEq] at h
        obtain ⟨rfl, rfl⟩ := h
        rw [e1] at hv
        generalize hu : a.eval x = u at *
        cases hv
        exact stay (by simp [execOp, ho, hu, convert, run_underlying hs, run_underlying hd, Conv.intToInt]) (.v _ rfl)
      · cases h
    · cases hc
  | makeFunc f first captured =>
    rw [ho] at hc
    simp only [compOp] at hc
    split at hc
    · rename_i l1 l2 h1 h2
      injection hc with hc
      subst hc
      simp only [aop, Option.some.injEq, Prod.mk.injEq] at h
      obtain ⟨rfl, rfl⟩ := h
      have L1 := compArgs_rel hT h1
      have L2 := compArgs_rel hT h2
      refine stay (u := .func f (first.map a.eval) (captured.map a.eval)) (by simp [execOp, ho, Instr.makeFunc]) ?_
      refine .fn _ _ _ _ _ (by have := L1.1; simpa using this) (by have := L2.1; simpa using this) (fun i x u q1 q2 => L1.2 i x u q1 ?_) (fun i x u q1 q2 => L2.2 i x u q1 ?_)
      · simpa using q2
      · simpa using q2
    · cases hc
  | makeSlice t l c =>
    rw [ho] at hc
    simp only [compOp] at hc
    split at hc
    · rename_i el ht
      split at hc
      · rename_i i z hi hz
        split at hc
        · rename_i hs
          split at hc
          · rename_i l' c' hl hcc
            injection hc with hc
            subst hc
            simp only [aop] at h
            exact .of (go_mks (es := i.size) hH ht hz hi hs (carg_rel hT hl) (carg_rel hT hcc) h) fun u w' hr => by simp [execOp, ho, hr]
          · cases hc
        · cases hc
      · cases hc
    · cases hc
  | slice t x lo hi mx =>
    rw [ho] at hc
    simp only [compOp] at hc
    split at hc
    · rename_i el x' l' h' m' ht hx hlo hhi hmx
      simp only [Option.map_eq_some_iff] at hc
      obtain ⟨es, hs, rfl⟩ := hc
      simp only [aop] at h
      have conv : ∀ {q : Option Operand} {q' : Option AArg}, cargO q = some q' → (q'.map (·.ev tm) = none ∧ q.map a.eval = none) ∨ ∃ y v, q'.map (·.ev tm) = some y ∧ q.map a.eval = some v ∧ VRel e w y v := by
        intro q q' hq
        rcases cargO_rel hT hq with ⟨rfl, rfl⟩ | ⟨x1, y1, rfl, rfl, hv⟩
        · exact .inl ⟨rfl, rfl⟩
        · exact .inr ⟨_, _, rfl, rfl, hv⟩
      split at h
      · rename_i l2 h2 m2 e1 e2 e3
        simp only [Option.map_eq_some_iff, Prod.mk.injEq] at h
        obtain ⟨y, h1, rfl, rfl⟩ := h
        exact .of (go_slice hH ht hs (carg_rel hT hx) (anat_rel (conv hlo) e1) (anat_rel (conv hhi) e2) (anat_rel (conv hmx) e3) h1) fun u w' hr => by simp [execOp, ho, hr]
      · cases h
    · rename_i x' l' h' ht hx hlo hhi hmx
      injection hc with hc
      subst hc
      have conv : ∀ {q : Option Operand} {q' : Option AArg}, cargO q = some q' → (q'.map (·.ev tm) = none ∧ q.map a.eval = none) ∨ ∃ y v, q'.map (·.ev tm) = some y ∧ q.map a.eval = some v ∧ VRel e w y v := by
        intro q q' hq
        rcases cargO_rel hT hq with ⟨rfl, rfl⟩ | ⟨x1, y1, rfl, rfl, hv⟩
        · exact .inl ⟨rfl, rfl⟩
        · exact .inr ⟨_, _, rfl, rfl, hv⟩
      have hmx' : mx = none := by
        rcases cargO_rel hT hmx with ⟨h, _⟩ | ⟨x1, y1, _, h, _⟩
        · exact h
        · cases h
      subst hmx'
      simp only [aop] at h
      split at h
      · rename_i s l2 h2 e0 e1 e2
        split at h
        · rename_i hle
          simp only [Option.some.injEq, Prod.mk.injEq] at h
          obtain ⟨rfl, rfl⟩ := h
          have hv := carg_rel hT hx
          rw [e0] at hv
          generalize hu : a.eval x = u at *
          cases hv
          refine stay ?_ (.v _ rfl)
          have hlo' := anat_rel (conv hlo) e1
          have hhi' := anat_rel (conv hhi) e2
          have hb : (Instr.sliceBounds false s.size s.size (lo.map a.eval) (hi.map a.eval) none).run P w = .ok (l2.getD 0, h2.getD s.size, s.size) w := by
            rcases hhi' with ⟨rfl, q2⟩ | ⟨kh, nh, rfl, q2⟩ <;> rcases hlo' with ⟨rfl, q1⟩ | ⟨kl, nl, rfl, q1⟩ <;> rw [q1, q2] <;> simp only [Option.getD_none, Option.getD_some] at hle ⊢
            · simp [Instr.sliceBounds]
            · simp [Instr.sliceBounds, run_bound kl nl s.size _ hle.1]
            · simp [Instr.sliceBounds, run_bound kh nh s.size _ (by omega)]
            · simp [Instr.sliceBounds, run_bound kh nh s.size _ (by omega), run_bound kl nl nh _ hle.1]
          simp [execOp, ho, hu, Instr.sliceAt, Instr.slice, run_underlying ht, hb]
        · cases h
      · cases h
    · cases hc
  | fieldAddr t x f =>
    rw [ho] at hc
    simp only [compOp] at hc
    split at hc
    · rename_i fs ht
      split at hc
      · rename_i fd hfd
        split at hc
        · rename_i n hs
          simp only [Option.map_eq_some_iff] at hc
          obtain ⟨y, hy, rfl⟩ := hc
          simp only [aop, Option.map_eq_some_iff, Prod.mk.injEq] at h
          obtain ⟨z, h1, rfl, rfl⟩ := h
          exact .of (go_fld hH ht hfd hs (carg_rel hT hy) h1) fun u w' hr => by simp [execOp, ho, hr]
        · cases hc
      · cases hc
    · cases hc
  | field t x f =>
    rw [ho] at hc
    simp only [compOp] at hc
    split at hc
    · rename_i fs ht
      split at hc
      · rename_i fd hfd
        split at hc
        · rename_i d n hd hs
          simp only [Option.map_eq_some_iff] at hc
          obtain ⟨y, hy, rfl⟩ := hc
          simp only [aop] at h
          split at h
          · rename_i cs e1
            split at h
            · rename_i hle
              simp only [Option.map_eq_some_iff, Prod.mk.injEq] at h
              obtain ⟨z, h1, rfl, rfl⟩ := h
              have hv := carg_rel hT hy
              rw [e1] at hv
              generalize hu : a.eval x = u at *
              cases hv with
              | agg _ us hn hr =>
              have L : LRel e w cs us.toList := ⟨by simpa using hn, fun i x u q1 q2 => hr i x u q1 (by simpa using q2)⟩
              exact .of (go_part hH hd hs L hle h1) fun u w' hr => by simp [execOp, ho, hu, Instr.field, run_underlying ht, hfd, asAgg, hr]
            · cases h
          · cases h
        · cases hc
      · cases hc
    · cases hc
  | indexAddr t x i =>
    rw [ho] at hc
    simp only [compOp] at hc
    split at hc
    · rename_i el x' i' ht hx hi
      simp only [Option.map_eq_some_iff] at hc
      obtain ⟨es, hs, rfl⟩ := hc
      simp only [aop] at h
      have hvi := carg_rel hT hi
      split at h
      · rename_i k n e2
        rw [e2] at hvi
        generalize hu : a.eval i = u at *
        cases hvi
        simp only [Option.map_eq_some_iff, Prod.mk.injEq] at h
        obtain ⟨z, h1, rfl, rfl⟩ := h
        exact .of (go_idx (kd := k) hH ht hs (carg_rel hT hx) h1) fun u w' hr => by simp [execOp, ho, hu, hr]
      · cases h
    · rename_i len el x' i' ht hx hi
      simp only [Option.map_eq_some_iff] at hc
      obtain ⟨es, hs, rfl⟩ := hc
      simp only [aop] at h
      have hvi := carg_rel hT hi
      split at h
      · rename_i k n e2
        rw [e2] at hvi
        generalize hu : a.eval i = u at *
        cases hvi
        simp only [Option.map_eq_some_iff, Prod.mk.injEq] at h
        obtain ⟨z, h1, rfl, rfl⟩ := h
        exact .of (go_idxA (kd := k) hH ht hs (carg_rel hT hx) h1) fun u w' hr => by simp [execOp, ho, hu, hr]
      · cases h
    · cases hc
  | index t x i =>
    rw [ho] at hc
    simp only [compOp] at hc
    split at hc
    · rename_i x' i' ht hx hi
      injection hc with hc
      subst hc
      simp only [aop] at h
      have hvi := carg_rel hT hi
      have hvx := carg_rel hT hx
      split at h
      · rename_i s k n e1 e2
        rw [e1] at hvx
        rw [e2] at hvi
        generalize hu : a.eval i = u at *
        generalize hux : a.eval x = ux at *
        cases hvi
        cases hvx
        split at h
        · rename_i h0
          simp only [Option.map_eq_some_iff, Prod.mk.injEq] at h
          obtain ⟨b, h1, rfl, rfl⟩ := h
          have hlt : n.toNat < s.size := (List.getElem?_eq_some_iff.1 h1).1
          have hb : s[n.toNat]? = some b := by
            rw [getElem?_pos s n.toNat hlt]
            have := (List.getElem?_eq_some_iff.1 h1).2
            exact congrArg some this
          exact stay (by simp [execOp, ho, hu, hux, Instr.index, asIntOf, run_underlying ht, h0, hb]) (.v _ rfl)
        · cases h
      · cases h
    · rename_i len el x' i' ht hx hi
      split at hc
      · rename_i d n hd hs
        injection hc with hc
        subst hc
        simp only [aop] at h
        have hvi := carg_rel hT hi
        have hvx := carg_rel hT hx
        split at h
        · rename_i cs k j e1 e2
          rw [e1] at hvx
          rw [e2] at hvi
          generalize hu : a.eval i = u at *
          generalize hux : a.eval x = ux at *
          cases hvi
          cases hvx with
          | agg _ us hn hr =>
          split at h
          · rename_i hle
            simp only [Option.map_eq_some_iff, Prod.mk.injEq] at h
            obtain ⟨z, h1, rfl, rfl⟩ := h
            have L : LRel e w cs us.toList := ⟨by simpa using hn, fun i x u q1 q2 => hr i x u q1 (by simpa using q2)⟩
            have hs' := hs
            simp only [tSize, Option.map_eq_some_iff] at hs'
            obtain ⟨q, hq, hqs⟩ := hs'
            exact .of (go_part hH hd hs L hle.2.2 h1) fun u w' hr => by simp [execOp, ho, hu, hux, Instr.index, asIntOf, run_underlying ht, hle.1, hle.2.1, sizeOf, typeInfo, hq, hqs, hr]
          · cases h
        · cases h
      · cases hc
    · cases hc
  | extract x i =>
    rw [ho] at hc
    simp only [compOp, Option.map_eq_some_iff] at hc
    obtain ⟨y, hy, rfl⟩ := hc
    simp only [aop] at h
    split at h
    · rename_i vs e1
      simp only [Option.map_eq_some_iff, Prod.mk.injEq] at h
      obtain ⟨z, h1, rfl, rfl⟩ := h
      have hv := carg_rel hT hy
      rw [e1] at hv
      generalize hu : a.eval x = u at *
      cases hv with
      | tup _ us hn hr =>
      have hi := (List.getElem?_eq_some_iff.1 h1).1
      have hui : us[i]? = some (us[i]'(by omega)) := Array.getElem?_eq_getElem (by omega)
      exact stay (by simp [execOp, ho, hu, Instr.extract, hui]) (hr i z _ h1 hui)
    · cases h
  | call c =>
    rw [ho] at hc
    simp only [compOp] at hc
    exact sound_call hH hT hc h o ho
  | _ => rw [ho] at hc; simp [compOp] at hc

end
end Go.Proofs.Ytooaiddfokbffaa.E

/- Code over abstract states: what is to be shown of it, calls, loops. Conditions: none. -/
set_option linter.unusedVariables false
set_option linter.unusedSimpArgs false
namespace Go.Proofs.Ytooaiddfokbffaa.E
open Go

inductive AI where
  | op (d : Option Nat) (g : Option (Nat × Bool)) (o : AOp)
  | call (d : Option Nat) (g : Option (Nat × Bool)) (f : AArg) (args : List AArg)

/-- A step of a region that draws its order: which operation, what it does, and which earlier steps are to be looked at again behind it. -/
structure DItem where
  ins : AI
  chk : List Nat

inductive ACode where
  | skip
  | ret
  | ops (l : List AI)
  | draw (l : List DItem)
  | seq (a b : ACode)
  | cond (c : AArg) (x y : ACode)
  | block (id : Nat) (b : ACode)
  | loop (b : ACode)
  | exit (id : Nat)
  | rangeF (g : AArg) (ps : Array Tmp) (n : Nat) (ca cb : Code) (a b : ACode)

inductive AExit where
  | normal | ret
  | exit (id : Nat)

structure ASt where
  tm : Nat → AV
  heap : AHeap

def upd (tm : Nat → AV) (d : Nat) (x : AV) : Nat → AV := fun n => if n = d then x else tm n
def updO (tm : Nat → AV) : Option Nat → AV → Nat → AV
  | some d, x => upd tm d x
  | none, _ => tm

def abool : AV → Option Bool
  | .v (.bool b) => some b
  | _ => none

def gOk (tm : Nat → AV) : Option (Nat × Bool) → Bool
  | none => true
  | some (t, want) => abool (tm t) == some want

/-! ### Calls -/
def CPost (e : Emb) (w : World) (R : AV → AHeap → Prop) : Ending → World → Prop := fun en w' =>
  ∃ u x H' e', en = .returned u ∧ R x H' ∧ HRel e' H' w' ∧ VRel e' w' x u ∧ Evo e w e' w'

/-- A call of a function at abstract values comes to what is said, in whatever world follows the heap. -/
def SCall (P : Program) (f : FuncId) (args : List AV) (H : AHeap) (R : AV → AHeap → Prop) : Prop :=
  (∃ fn, P.funcs[f]? = some fn ∧ (fn.name == "runtime.NumGoroutine") = false ∧ fn.body.isNone = false) ∧
  ∀ (e : Emb) (w : World) (us : List Value), HRel e H w → LRel e w args us → Calls P f us.toArray w (CPost e w R)

theorem SCall.mono {P : Program} {f : FuncId} {args : List AV} {H : AHeap} {R R' : AV → AHeap → Prop} (h : SCall P f args H R) (hr : ∀ x H', R x H' → R' x H') : SCall P f args H R' :=
  ⟨h.1, fun e w us h1 h2 => (h.2 e w us h1 h2).mono fun en w' ⟨u, x, H', e', a, b, c⟩ => ⟨u, x, H', e', a, hr _ _ b, c⟩⟩

/-- The widest fence, within a round or without. -/
abbrev Rr (r : Option Nat) : Fence := { Fence.wide with round := r }

/-- What a call comes to: a value at once, a function's body, a round of a loop over a function. -/
def NextOk (n : Nat) (P : Program) (R : Ending → World → Prop) : Result Next → Prop
  | .ok (.value v) w' => R (.returned v) w'
  | .ok (.enter f args) w' => Calls P f args w' R
  | .ok (.round l f tmps ca cb) w' => RoundIn Fence.wide n P l f tmps ca cb w' R
  | _ => False

/-- A call of a value that is no plain function. -/
def SVal (P : Program) (fv : AV) (args : List AV) (H : AHeap) (R : AV → AHeap → Prop) : Prop :=
  ∀ (e : Emb) (w : World) (uf : Value) (us : List Value) (n : Nat), HRel e H w → VRel e w fv uf → LRel e w args us →
    ∃ d, (Deferred.ofValue uf us.toArray).run P w = .ok d w ∧ NextOk n P (CPost e w R) ((invoke d.target d.args).run P w)

theorem NextOk.mono {n : Nat} {P : Program} {R R' : Ending → World → Prop} (hr : ∀ e w, R e w → R' e w) : ∀ {r : Result Next}, NextOk n P R r → NextOk n P R' r := by
  intro r h
  cases r with
  | ok x w =>
    cases x with
    | value v => exact hr _ _ h
    | enter f args => exact Calls.mono h hr
    | round l f tmps ca cb => exact RoundIn.mono h hr
    | _ => exact h.elim
  | halt x w => exact h.elim

theorem SVal.mono {P : Program} {fv : AV} {args : List AV} {H : AHeap} {R R' : AV → AHeap → Prop} (h : SVal P fv args H R) (hr : ∀ x H', R x H' → R' x H') : SVal P fv args H R' :=
  fun e w uf us n h1 h2 h3 => let ⟨d, k1, k2⟩ := h e w uf us n h1 h2 h3; ⟨d, k1, k2.mono fun en w' ⟨u, x, H', e', a, b, c⟩ => ⟨u, x, H', e', a, hr _ _ b, c⟩⟩

def AI.dst : AI → Option Nat
  | .op d _ _ => d
  | .call d _ _ _ => d

/-- One step: its value, and the heap behind it. -/
def stepV (P : Program) (i : AI) (tm : Nat → AV) (H : AHeap) (R : AV → AHeap → Prop) : Prop :=
  match i with
  | .op _ g o => if gOk tm g = true then ∃ x H', aop tm H o = some (x, H') ∧ R x H' else R uv H
  | .call _ g f args => if gOk tm g = true then (∃ fid fs cs, f.ev tm = .fn (.func fid) fs cs ∧ SCall P fid (fs ++ (args.map (·.ev tm) ++ cs)) H R) ∨ SVal P (f.ev tm) (args.map (·.ev tm)) H R else R uv H

def stepI (P : Program) (i : AI) (st : ASt) (K : ASt → Prop) : Prop := stepV P i st.tm st.heap fun x H' => K ⟨updO st.tm i.dst x, H'⟩

def swpI (P : Program) : List AI → (ASt → Prop) → ASt → Prop
  | [], Q, st => Q st
  | i :: r, Q, st => stepI P i st (swpI P r Q)

/-- Where a value lies. -/
def avBlock : AV → Option Nat
  | .ptr b _ => some b
  | .slc b _ _ _ _ _ => some b
  | _ => none

inductive OKind where
  | same | new | heavy
  deriving DecidableEq

def okind : AOp → OKind
  | .store .. | .append .. => .heavy
  | .alloc _ | .box _ | .buildS .. => .new
  | .mks .. => .heavy
  | _ => .same

/-- An earlier step would do the same again. -/
def again (st st' : ASt) : AI → Prop
  | .op d g o => gOk st.tm g = true → match okind o with
    | .same => match d with
      | some d => aop st'.tm st'.heap o = some (st.tm d, st'.heap)
      | none => ∃ x, aop st'.tm st'.heap o = some (x, st'.heap)
    | .new => match d with
      | some d => ∀ b, avBlock (st.tm d) = some b → st'.heap.get b = st.heap.get b
      | none => False
    | .heavy => True
  | .call .. => True

def swpD (P : Program) : List AI → List DItem → (ASt → Prop) → ASt → Prop
  | _, [], Q, st => Q st
  | done, it :: r, Q, st => stepI P it.ins st fun st' => (∀ p ∈ it.chk, ∀ c, done[p]? = some c → again st st' c) ∧ swpD P (done ++ [it.ins]) r Q st'

def thenQ (K : ASt → Prop) (Q : AExit → ASt → Prop) : AExit → ASt → Prop
  | .normal, st => K st
  | e, st => Q e st

def inBlockQ (id : Nat) (Q : AExit → ASt → Prop) : AExit → ASt → Prop
  | .exit id', st => if id' = id then Q .normal st else Q (.exit id') st
  | e, st => Q e st

def loopN (body : (AExit → ASt → Prop) → ASt → Prop) (Q : AExit → ASt → Prop) : Nat → ASt → Prop
  | 0, _ => False
  | n + 1, st => body (thenQ (loopN body Q n) Q) st

def swp (P : Program) : ACode → (AExit → ASt → Prop) → ASt → Prop
  | .skip, Q, st => Q .normal st
  | .ret, Q, st => Q .ret st
  | .ops l, Q, st => swpI P l (Q .normal) st
  | .draw l, Q, st => swpD P [] l (Q .normal) st
  | .seq a b, Q, st => swp P a (thenQ (swp P b Q) Q) st
  | .cond c x y, Q, st => match c.ev st.tm with
    | .v (.bool t) => if t = true then swp P x Q st else swp P y Q st
    | _ => False
  | .block id b, Q, st => swp P b (inBlockQ id Q) st
  | .loop b, Q, st => ∃ n, loopN (swp P b) Q n st
  | .exit id, Q, st => Q (.exit id) st
  | .rangeF .., _, _ => False

/-! ### What of the model's code it stands for -/
def compG (ops : Array Oper) : Option (Nat × Bool) → Option (Option (Nat × Bool))
  | none => some none
  | some (j, want) => match (ops[j]?).bind (·.dst) with
    | some t => some (some (t, want))
    | none => none

def dstOk (N : Nat) : Option Nat → Bool
  | none => true
  | some d => d < N

def compI (P : Program) (N : Nat) (ops : Array Oper) (o : Oper) : Option AI :=
  if dstOk N o.dst then
    match compG ops o.guard with
    | none => none
    | some g => match o.op with
      | .call { callee := .value f, args := args, .. } => match carg f, compArgs args.toList with
        | some f', some azs => some (.call o.dst g f' azs)
        | _, _ => none
      | .call { callee := .invoke recv name, args := args, .. } => match carg recv, compArgs args.toList with
        | some f', some azs => some (.call o.dst g (.c (.fn (.method name) [] [])) (f' :: azs))
        | _, _ => none
      | op => (compOp P op).map fun ao => .op o.dst g ao
  else none

def compIs (P : Program) (N : Nat) (ops : Array Oper) : List Oper → Option (List AI)
  | [] => some []
  | o :: r => match compI P N ops o, compIs P N ops r with
    | some i, some is => some (i :: is)
    | _, _ => none

/-! ### Soundness of a step -/
structure StRel (Ds : List Deferred) (N : Nat) (e : Emb) (st : ASt) (a : Act) (w : World) : Prop where
  heap : HRel e st.heap w
  tm : TRel e w st.tm a
  size : N ≤ a.tmps.size
  defers : a.defers = Ds

section
variable {P : Program} {e : Emb} {w : World} {N : Nat} {Ds : List Deferred}

theorem put_tm {tm : Nat → AV} {a : Act} (hT : TRel e w tm a) (hN : N ≤ a.tmps.size) {d : Option Nat} (hd : dstOk N d = true) {x : AV} {u : Value} (hx : VRel e w x u) : TRel e w (updO tm d x) (a.put d u) := by
  cases d with
  | none => exact hT
  | some d =>
    simp only [dstOk, decide_eq_true_eq] at hd
    intro n
    simp only [updO, upd, Act.put, Array.getD_eq_getD_getElem?, Array.getElem?_setIfInBounds]
    by_cases h : n = d
    · subst h
      simp [show n < a.tmps.size by omega]
      exact hx
    · rw [if_neg h, if_neg (fun hh => h hh.symm)]
      have := hT n
      simpa [Array.getD_eq_getD_getElem?] using this

theorem put_size (a : Act) (d : Option Nat) (u : Value) : (a.put d u).tmps.size = a.tmps.size := by cases d <;> simp [Act.put]
theorem put_defers (a : Act) (d : Option Nat) (u : Value) : (a.put d u).defers = a.defers := by cases d <;> rfl

theorem StRel.put {st : ASt} {a : Act} (h : StRel Ds N e st a w) {d : Option Nat} (hd : dstOk N d = true) {x : AV} {u : Value} {H' : AHeap} {e' : Emb} {w' : World} (hH : HRel e' H' w') (hx : VRel e' w' x u) (hv : Evo e w e' w') :
    StRel Ds N e' ⟨updO st.tm d x, H'⟩ (a.put d u) w' :=
  ⟨hH, put_tm (h.tm.evo hv) h.size hd hx, by rw [put_size]; exact h.size, by rw [put_defers]; exact h.defers⟩

def vbool : Value → Option Bool
  | .bool b => some b
  | _ => none

theorem abool_rel {x : AV} {u : Value} (h : VRel e w x u) : abool x = vbool u := by
  cases h with
  | v _ hx => cases u <;> rfl
  | _ => rfl

theorem wanted_iff {tm : Nat → AV} {a : Act} (hT : TRel e w tm a) (hN : N ≤ a.tmps.size) {ops : Array Oper} {o : Oper} {g : Option (Nat × Bool)} (hg : compG ops o.guard = some g) : Region.wanted o (yielded ops a.tmps) = gOk tm g := by
  unfold Region.wanted
  cases hgo : o.guard with
  | none => rw [hgo] at hg; simp only [compG, Option.some.injEq] at hg; subst hg; rfl
  | some q =>
    obtain ⟨j, want⟩ := q
    rw [hgo] at hg
    simp only [compG] at hg
    split at hg
    · rename_i t ht
      injection hg with hg
      subst hg
      simp only [gOk, yielded, ht, Option.bind_some]
      have hv : VRel e w (tm t) (a.tmps.getD t undef) := hT t
      have := abool_rel hv
      rw [Array.getD_eq_getD_getElem?] at this
      rw [this]
      cases hq : a.tmps[t]? with
      | none => simp [undef, vbool]
      | some u => cases u <;> simp [vbool]
    · cases hg

theorem runs_enter {fid : FuncId} {fn : Func} (h1 : P.funcs[fid]? = some fn) (h2 : (fn.name == "runtime.NumGoroutine") = false) (h3 : fn.body.isNone = false) (args : Array Value) : (callFunc fid args).run P w = .ok (.enter fid args) w := by
  have n1 : ¬ fn.name = "runtime.NumGoroutine" := by simpa using h2
  have n2 : ¬ fn.body = none := by intro hb; rw [hb] at h3; cases h3
  simp [callFunc, h1, n1, n2]

theorem compI_dst {ops : Array Oper} {o : Oper} {i : AI} (hc : compI P N ops o = some i) : i.dst = o.dst ∧ dstOk N o.dst = true := by
  unfold compI at hc
  split at hc
  case isFalse => cases hc
  rename_i hd
  split at hc
  · cases hc
  rename_i g hg
  split at hc
  · split at hc
    case h_2 => cases hc
    injection hc with hc
    subst hc
    exact ⟨rfl, hd⟩
  · split at hc
    case h_2 => cases hc
    injection hc with hc
    subst hc
    exact ⟨rfl, hd⟩
  · simp only [Option.map_eq_some_iff] at hc
    obtain ⟨ao, hao, rfl⟩ := hc
    exact ⟨rfl, hd⟩

/-- What is to be shown of an operation, wanted or not. -/
def stepW (r : Option Nat) (n : Nat) (P : Program) (ops : Array Oper) (o : Oper) (a : Act) (w : World) (next : Act → World → Prop) (Q : Exit → Act → World → Prop) : Prop :=
  if Region.wanted o (yielded ops a.tmps) = true then o.wpIn (Rr r) n P a w next Q else (∀ f, o.about P w a.eval = some f → (Rr r).fn f) ∧ next (a.put o.dst undef) w

theorem oper_wpIn {r : Option Nat} {n : Nat} {o : Oper} {a : Act} {next : Act → World → Prop} {Q : Exit → Act → World → Prop} (hq : ∀ c, o.op ≠ .defer c) (h : o.uponIn (Rr r) n P a next Q ((execOp a.eval o).run P w)) : o.wpIn (Rr r) n P a w next Q :=
  ⟨fun _ _ => trivial, by rw [Oper.semAt_eq _ _ _ hq]; exact h⟩

theorem compI_quiet {ops : Array Oper} {o : Oper} {i : AI} (hc : compI P N ops o = some i) (c : Call) : o.op ≠ .defer c := by
  intro ho
  unfold compI at hc
  rw [ho] at hc
  split at hc
  case isFalse => cases hc
  split at hc
  · cases hc
  simp [compOp] at hc

/-- A call's ending, as the operation takes it. -/
theorem upon_next {r : Option Nat} {n : Nat} {o : Oper} {a : Act} {next : Act → World → Prop} {Q : Exit → Act → World → Prop} {R : Ending → World → Prop} (hR : ∀ en w', R en w' → ∃ u, en = .returned u ∧ next (a.put o.dst u) w') :
    ∀ {x : Result Next}, NextOk (n - 1) P R x → o.uponIn (Rr r) n P a next Q x := by
  intro x h
  cases x with
  | ok x w =>
    cases x with
    | value v => obtain ⟨u, hu, hk⟩ := hR _ _ h; cases hu; exact hk
    | enter f args =>
      refine ⟨fun hd => (by simp [Fence.wide] at hd), (show CallsIn Fence.wide (n - 1) P f args w _ from callsIn_wide.2 (Calls.mono h fun en w' hp => ?_))⟩
      obtain ⟨u, rfl, hk⟩ := hR _ _ hp
      exact hk
    | round l f tmps ca cb =>
      refine ⟨fun hd => (by simp [Fence.wide] at hd), (show RoundIn Fence.wide (n - 1) P l f tmps ca cb w _ from RoundIn.mono h fun en w' hp => ?_)⟩
      obtain ⟨u, rfl, hk⟩ := hR _ _ hp
      exact hk
    | _ => exact h.elim
  | halt x w => exact h.elim

/-- One step of a region. -/
theorem stepV_sound {ops : Array Oper} {o : Oper} {i : AI} (hc : compI P N ops o = some i) {tm : Nat → AV} {H : AHeap} {a : Act} (hH : HRel e H w) (hT : TRel e w tm a) (hN : N ≤ a.tmps.size) {R : AV → AHeap → Prop} (h : stepV P i tm H R)
    {r : Option Nat} {n : Nat} {next : Act → World → Prop} {Q : Exit → Act → World → Prop} (hK : ∀ x H' u w' e', R x H' → HRel e' H' w' → VRel e' w' x u → Evo e w e' w' → next (a.put o.dst u) w') :
    stepW r n P ops o a w next Q := by
  have hquiet := compI_quiet hc
  have hpost : ∀ en w', CPost e w R en w' → ∃ u, en = .returned u ∧ next (a.put o.dst u) w' := fun en w' ⟨u, x, H', e', h0, h1, h2, h3, h4⟩ => ⟨u, h0, hK _ _ _ _ _ h1 h2 h3 h4⟩
  unfold stepW
  unfold compI at hc
  split at hc
  case isFalse => cases hc
  rename_i hd
  split at hc
  · cases hc
  rename_i g hg
  have hw := wanted_iff hT hN hg
  rw [hw]
  have skip : R uv H → (∀ f, o.about P w a.eval = some f → (Rr r).fn f) ∧ next (a.put o.dst undef) w := fun hk => ⟨fun _ _ => trivial, hK _ _ _ _ _ hk hH VRel.uv (Evo.refl e w)⟩
  split at hc
  · rename_i f args tys hop
    split at hc
    case h_2 => cases hc
    rename_i f' azs hf has
    injection hc with hc
    subst hc
    simp only [stepV] at h
    split
    · rename_i hgo
      rw [if_pos hgo] at h
      refine oper_wpIn hquiet ?_
      rcases h with ⟨fid, fs, cs, hfv, ⟨fn, q1, q2, q3⟩, hcall⟩ | hval
      case inr =>
        have LA := compArgs_rel hT has
        obtain ⟨d, k1, k2⟩ := hval e w _ _ (n - 1) hH (carg_rel hT hf) LA
        have hargs : (args.toList.map a.eval).toArray = args.map a.eval := by apply Array.ext'; simp
        rw [hargs] at k1
        have hrun : (execOp a.eval o).run P w = (invoke d.target d.args).run P w := by
          simp only [execOp, hop, resolve, Sem.run_bind, k1, Result.andThen_ok]
        rw [hrun]
        exact upon_next hpost k2
      have hvf := carg_rel hT hf
      rw [hfv] at hvf
      generalize huf : a.eval f = uf at *
      cases hvf with
      | fn _ _ _ ufs ucs hn1 hn2 hr1 hr2 =>
      have LF : LRel e w fs ufs.toList := ⟨by simpa using hn1, fun i x u r1 r2 => hr1 i x u r1 (by simpa using r2)⟩
      have LC : LRel e w cs ucs.toList := ⟨by simpa using hn2, fun i x u r1 r2 => hr2 i x u r1 (by simpa using r2)⟩
      have LA := compArgs_rel hT has
      have hargs : (ufs.toList ++ (args.toList.map a.eval ++ ucs.toList)).toArray = ufs ++ args.map a.eval ++ ucs := by
        apply Array.ext'
        simp
      have hC := hcall e w _ hH (LF.append (LA.append LC))
      rw [hargs] at hC
      have hrun : (execOp a.eval o).run P w = .ok (.enter fid (ufs ++ args.map a.eval ++ ucs)) w := by
        simp only [execOp, hop, resolve, huf, Deferred.ofValue, Sem.run_bind, Sem.run_pure, Result.andThen_ok, invoke]
        exact runs_enter q1 q2 q3 _
      rw [hrun]
      exact upon_next (x := .ok (.enter fid (ufs ++ args.map a.eval ++ ucs)) w) hpost hC
    · rename_i hgo
      rw [if_neg hgo] at h
      exact skip h
  · rename_i recv name args tys hop
    split at hc
    case h_2 => cases hc
    rename_i f' azs hf has
    injection hc with hc
    subst hc
    simp only [stepV] at h
    split
    · rename_i hgo
      rw [if_pos hgo] at h
      refine oper_wpIn hquiet ?_
      rcases h with ⟨fid, fs, cs, hfv, _⟩ | hval
      · simp only [AArg.ev, AV.fn.injEq, reduceCtorEq, false_and] at hfv
      have LA := compArgs_rel hT has
      have hv0 : VRel e w (.fn (.method name) [] []) (.func (.method name) #[] #[]) := .fn _ _ _ _ _ rfl rfl (fun i x u h => by simp at h) (fun i x u h => by simp at h)
      obtain ⟨d, k1, k2⟩ := hval e w _ _ (n - 1) hH hv0 (LRel.cons (carg_rel hT hf) LA)
      have hargs : (a.eval recv :: args.toList.map a.eval).toArray = #[a.eval recv] ++ args.map a.eval := by apply Array.ext'; simp
      simp only [Deferred.ofValue, Sem.run_pure, Result.ok.injEq, and_true] at k1
      subst k1
      rw [hargs] at k2
      have hrun : (execOp a.eval o).run P w = (invoke (.fn (.method name) #[]) (#[] ++ (#[a.eval recv] ++ args.map a.eval))).run P w := by
        simp only [execOp, hop, resolve, Sem.run_bind, Sem.run_pure, Result.andThen_ok, Array.empty_append]
      rw [hrun]
      exact upon_next hpost k2
    · rename_i hgo
      rw [if_neg hgo] at h
      exact skip h
  · simp only [Option.map_eq_some_iff] at hc
    obtain ⟨ao, hao, rfl⟩ := hc
    simp only [stepV] at h
    split
    · rename_i hgo
      rw [if_pos hgo] at h
      obtain ⟨x, H', h1, h2⟩ := h
      obtain ⟨u, w', e', hr, h3, h4, h5⟩ := aop_sound hH hT o hao h1
      refine oper_wpIn hquiet ?_
      rcases hr with hr | ⟨hr, rfl⟩
      · rw [hr]
        exact hK _ _ _ _ _ h2 h3 h4 h5
      · rw [hr]
        exact hK _ _ _ _ _ h2 h3 h4 h5
    · rename_i hgo
      rw [if_neg hgo] at h
      exact skip h

theorem step_sound {ops : Array Oper} {o : Oper} {i : AI} (hc : compI P N ops o = some i) {st : ASt} {a : Act} (hS : StRel Ds N e st a w) {K : ASt → Prop} (h : stepI P i st K)
    {r : Option Nat} {n : Nat} {next : Act → World → Prop} {Q : Exit → Act → World → Prop} (hK : ∀ st' a' w' e', K st' → StRel Ds N e' st' a' w' → Evo e w e' w' → next a' w') :
    stepW r n P ops o a w next Q := by
  obtain ⟨hd1, hd2⟩ := compI_dst hc
  refine stepV_sound hc hS.heap hS.tm hS.size h fun x H' u w' e' hk hH hx hv => hK _ _ _ _ hk ?_ hv
  rw [hd1]
  exact hS.put hd2 hH hx hv

theorem list_sound {ops : Array Oper} {r : Option Nat} {n : Nat} : ∀ (l : List Oper) (is : List AI), compIs P N ops l = some is → ∀ (e : Emb) (w : World) (st : ASt) (a : Act), StRel Ds N e st a w → ∀ (K : ASt → Prop), swpI P is K st →
    ∀ (Q : Exit → Act → World → Prop), (∀ st' a' w' e', K st' → StRel Ds N e' st' a' w' → Evo e w e' w' → Q .normal a' w') → wpListIn (Rr r) n P ops Q l a w := by
  intro l
  induction l with
  | nil =>
    intro is hc e w st a hS K h Q hQ
    simp only [compIs, Option.some.injEq] at hc
    subst hc
    exact hQ _ _ _ _ h hS (Evo.refl e w)
  | cons o l ih =>
    intro is hc e w st a hS K h Q hQ
    simp only [compIs] at hc
    split at hc
    · rename_i i is' h1 h2
      injection hc with hc
      subst hc
      simp only [swpI] at h
      simp only [wpListIn]
      exact step_sound h1 hS h fun st' a' w' e' hk hs' hv => ih is' h2 e' w' st' a' hs' K hk Q fun st2 a2 w2 e2 hk2 hs2 hv2 => hQ _ _ _ _ hk2 hs2 (hv.trans hv2)
    · cases hc

end
end Go.Proofs.Ytooaiddfokbffaa.E

/- What an abstract operation reads, and what it does not hang on. Conditions: none. -/
set_option linter.unusedVariables false
set_option linter.unusedSimpArgs false
namespace Go.Proofs.Ytooaiddfokbffaa.E
open Go

def aReads : AOp → List AArg
  | .move x => [x]
  | .pick c a b => [c, a, b]
  | .alloc _ => []
  | .box x => [x]
  | .build _ ps => ps.map (·.2.2)
  | .buildS _ _ _ ps => ps.map (·.2.2)
  | .load _ _ a => [a]
  | .store _ a x => [a, x]
  | .nilchk x => [x]
  | .ibin _ x y => [x, y]
  | .sbin _ x y => [x, y]
  | .bbin _ x y => [x, y]
  | .nbin _ _ x => [x]
  | .ebin _ _ x y => [x, y]
  | .not x => [x]
  | .neg x => [x]
  | .conv _ x => [x]
  | .fld _ x => [x]
  | .idx _ x i => [x, i]
  | .idxA _ _ x i => [x, i]
  | .part _ _ _ x => [x]
  | .aidx _ _ _ x i => [x, i]
  | .sidx x i => [x, i]
  | .slice _ x l h m => x :: (l.toList ++ (h.toList ++ m.toList))
  | .sslice x l h => x :: (l.toList ++ h.toList)
  | .mks _ _ l c => [l, c]
  | .ext x _ => [x]
  | .func _ a b => a ++ b
  | .len _ x => [x]
  | .append _ _ s x => [s, x]
  | .mm _ x y => [x, y]

section
variable {tm tm' : Nat → AV} {H : AHeap}

theorem evO_congr {x : Option AArg} (h : ∀ y ∈ x.toList, y.ev tm = y.ev tm') : x.map (·.ev tm) = x.map (·.ev tm') := by
  cases x with
  | none => rfl
  | some y => simp [h y (by simp)]

theorem evL_congr {xs : List AArg} (h : ∀ y ∈ xs, y.ev tm = y.ev tm') : xs.map (·.ev tm) = xs.map (·.ev tm') := List.map_congr_left h

theorem evP_congr {ps : List (Nat × Nat × AArg)} (h : ∀ y ∈ ps.map (·.2.2), y.ev tm = y.ev tm') : (ps.map fun p => (p.1, p.2.1, p.2.2.ev tm)) = ps.map fun p => (p.1, p.2.1, p.2.2.ev tm') :=
  List.map_congr_left fun p hp => by rw [h p.2.2 (List.mem_map_of_mem hp)]

theorem aop_congr {o : AOp} (h : ∀ x ∈ aReads o, x.ev tm = x.ev tm') : aop tm H o = aop tm' H o := by
  cases o <;> simp only [aReads, List.mem_cons, List.not_mem_nil, or_false, forall_eq_or_imp, forall_eq, List.mem_append] at h <;> simp only [aop]
  case build z ps => rw [evP_congr h]
  case buildS es n z ps => rw [evP_congr h]
  case slice es x l hi m => rw [h.1, evO_congr (fun y hy => h.2 y (.inl hy)), evO_congr (fun y hy => h.2 y (.inr (.inl hy))), evO_congr (fun y hy => h.2 y (.inr (.inr hy)))]
  case sslice x l hi => rw [h.1, evO_congr (fun y hy => h.2 y (.inl hy)), evO_congr (fun y hy => h.2 y (.inr hy))]
  case func f a b => rw [evL_congr (fun y hy => h y (.inl hy)), evL_congr (fun y hy => h y (.inr hy))]
  all_goals (first | rw [h] | rw [h.1, h.2] | rw [h.1, h.2.1, h.2.2])

theorem same_heap {o : AOp} (hk : okind o = .same) {x : AV} {H' : AHeap} (h : aop tm H o = some (x, H')) : H' = H := by
  cases o <;> simp only [okind, reduceCtorEq] at hk <;> simp only [aop] at h
  all_goals (first
    | (simp only [Option.some.injEq, Prod.mk.injEq] at h; exact h.2.symm)
    | (simp only [Option.map_eq_some_iff, Prod.mk.injEq] at h; obtain ⟨_, _, _, h⟩ := h; exact h.symm)
    | skip)
  all_goals (split at h <;> first
    | (cases h; done)
    | (simp only [Option.some.injEq, Prod.mk.injEq] at h; exact h.2.symm)
    | (simp only [Option.map_eq_some_iff, Prod.mk.injEq] at h; obtain ⟨_, _, _, h⟩ := h; exact h.symm)
    | skip)
  all_goals (split at h <;> first
    | (cases h; done)
    | (simp only [Option.some.injEq, Prod.mk.injEq] at h; exact h.2.symm)
    | (simp only [Option.map_eq_some_iff, Prod.mk.injEq] at h; obtain ⟨_, _, _, h⟩ := h; exact h.symm)
    | skip)
  all_goals (split at h <;> first
    | (cases h; done)
    | (simp only [Option.some.injEq, Prod.mk.injEq] at h; exact h.2.symm)
    | (simp only [Option.map_eq_some_iff, Prod.mk.injEq] at h; obtain ⟨_, _, _, h⟩ := h; exact h.symm))

/-- More blocks change nothing. -/
theorem aload_more (hw : ∀ b o, H.get b = some o → b < H.next) {n : Nat} {x : AV} {cs : List AV} (h : aload H n x = some cs) (ob : AObj) : aload (H.new ob) n x = some cs := by
  cases x <;> simp only [aload] at h ⊢ <;> try (cases h; done)
  case ptr b off =>
    split at h
    · rename_i l hl
      have := hw b _ hl
      rw [new_get, if_neg (by omega), hl]
      exact h
    · cases h
  all_goals exact h

theorem alen_more (hw : ∀ b o, H.get b = some o → b < H.next) {k : LK} {x : AV} {n : Nat} (h : alen H k x = some n) (ob : AObj) : alen (H.new ob) k x = some n := by
  unfold alen at h ⊢
  split at h <;> first | exact h | skip
  all_goals (split at h <;> first | (cases h; done) | skip)
  all_goals (first | (rename_i h1; have := hw _ _ h1; rw [new_get, if_neg (by omega), h1]; exact h) | skip)

def heapless : AOp → Bool
  | .load .. | .len .. => false
  | o => okind o = .same

theorem heapless_any {o : AOp} (hk : heapless o = true) (H' : AHeap) : aop tm H' o = (aop tm H o).map fun p => (p.1, H') := by
  cases o <;> simp only [heapless, okind, decide_eq_true_eq, reduceCtorEq, decide_false, Bool.false_eq_true] at hk <;> simp only [aop]
  all_goals (first
    | rfl
    | (simp only [Option.map_map]; rfl)
    | (split <;> first
        | rfl
        | (simp only [Option.map_map]; rfl)
        | (split <;> first
            | rfl
            | (simp only [Option.map_map]; rfl)
            | (split <;> first | rfl | (simp only [Option.map_map]; rfl)))))

theorem same_more {o : AOp} (hk : okind o = .same) (hw : ∀ b ob, H.get b = some ob → b < H.next) {x : AV} (h : aop tm H o = some (x, H)) (ob : AObj) : aop tm (H.new ob) o = some (x, H.new ob) := by
  cases hl : heapless o with
  | true => rw [heapless_any hl (H := H), h]; rfl
  | false =>
    cases o <;> simp only [okind, reduceCtorEq] at hk <;> simp [heapless, okind] at hl
    · rename_i agg n a
      simp only [aop, Option.map_eq_some_iff, Prod.mk.injEq] at h ⊢
      obtain ⟨y, h1, rfl, _⟩ := h
      obtain ⟨cs, h2, h3⟩ := Option.bind_eq_some_iff.1 h1
      exact ⟨y, by rw [aload_more hw h2, Option.bind_some, h3], rfl, trivial⟩
    · rename_i k a
      simp only [aop, Option.map_eq_some_iff, Prod.mk.injEq] at h ⊢
      obtain ⟨n, h1, rfl, _⟩ := h
      exact ⟨n, alen_more hw h1 ob, rfl, trivial⟩

/-- What is laid out by an operation that makes a block, and the value of the block's number. -/
def anew (tm : Nat → AV) : AOp → Option (List AV × (Nat → AV))
  | .alloc z => some (z, fun b => .ptr b 0)
  | .box x => some ((x.ev tm).acells, fun b => .ptr b 0)
  | .buildS es n z parts => (afill z (parts.map fun p => (p.1, p.2.1, p.2.2.ev tm))).map fun cs => (cs, fun b => .slc b 0 es n n true)
  | _ => none

theorem new_aop {o : AOp} (hk : okind o = .new) {x : AV} {H' : AHeap} (h : aop tm H o = some (x, H')) : ∃ l mk, anew tm o = some (l, mk) ∧ x = mk H.next ∧ H' = H.new (.cells l) := by
  cases o <;> simp only [okind, reduceCtorEq] at hk <;> simp only [aop] at h
  · simp only [Option.some.injEq, Prod.mk.injEq] at h; exact ⟨_, _, rfl, h.1.symm, h.2.symm⟩
  · simp only [Option.some.injEq, Prod.mk.injEq] at h; exact ⟨_, _, rfl, h.1.symm, h.2.symm⟩
  · simp only [Option.map_eq_some_iff, Prod.mk.injEq] at h
    obtain ⟨cs, h1, h2, h3⟩ := h
    exact ⟨cs, _, by simp only [anew, h1]; rfl, h2.symm, h3.symm⟩

theorem anew_kind {o : AOp} {r : List AV × (Nat → AV)} (h : anew tm o = some r) : okind o = .new := by
  cases o <;> simp only [anew, reduceCtorEq] at h <;> rfl

theorem anew_block {o : AOp} {l : List AV} {mk : Nat → AV} (h : anew tm o = some (l, mk)) (b : Nat) : avBlock (mk b) = some b := by
  cases o <;> simp only [anew, reduceCtorEq] at h
  · simp only [Option.some.injEq, Prod.mk.injEq] at h; obtain ⟨_, rfl⟩ := h; rfl
  · simp only [Option.some.injEq, Prod.mk.injEq] at h; obtain ⟨_, rfl⟩ := h; rfl
  · simp only [Option.map_eq_some_iff, Prod.mk.injEq] at h; obtain ⟨_, _, _, rfl⟩ := h; rfl

theorem anew_congr {o : AOp} (h : ∀ x ∈ aReads o, x.ev tm = x.ev tm') : anew tm o = anew tm' o := by
  cases o <;> simp only [aReads, List.mem_cons, List.not_mem_nil, or_false, forall_eq_or_imp, forall_eq] at h <;> simp only [anew]
  · rw [h]
  · rw [evP_congr h]

end

section
variable {e : Emb} {w : World} {H : AHeap} {P : Program} {tm : Nat → AV} {a : Act}

/-- An operation that makes a block, where the block was laid out before: it comes to lie. -/
theorem anew_sound (hH : HRel e H w) (hT : TRel e w tm a) (o : Oper) {ao : AOp} (hc : compOp P o.op = some ao) {l : List AV} {mk : Nat → AV} (h : anew tm ao = some (l, mk)) {b : Nat} (hb : H.get b = some (.cells l)) (hm : e.map b = none) :
    ∃ u w', Ran P a.eval o w u w' ∧ HRel (e.add b w.heap.size) H w' ∧ VRel (e.add b w.heap.size) w' (mk b) u ∧ Evo0 e w (e.add b w.heap.size) w' := by
  have fin : ∀ (cs : Array Value) (t : TypeId), (∀ (i : Nat) (x : AV), l[i]? = some x → ∃ u, cs[i]? = some u ∧ VRel e w x u) →
      HRel (e.add b w.heap.size) H (w.alloc (.cells cs t)) ∧ Evo0 e w (e.add b w.heap.size) (w.alloc (.cells cs t)) := by
    intro cs t hl
    have hv := Evo0.add hm (w := w) (.cells cs t)
    exact ⟨hH.add hb hm _ ⟨cs, t, heap_alloc_new w _, fun i x hx => let ⟨u, h1, h2⟩ := hl i x hx; ⟨u, h1, h2.evo0 hv⟩⟩, hv⟩
  cases ao <;> simp only [anew, reduceCtorEq] at h
  case alloc z =>
    cases ho : o.op <;> rw [ho] at hc <;> (try (simp only [compOp, compBin, compCall, Option.map_eq_some_iff, reduceCtorEq, and_false, exists_false] at hc; done))
    case alloc t =>
      simp only [compOp, Option.map_eq_some_iff, AOp.alloc.injEq] at hc
      obtain ⟨z', hz, rfl⟩ := hc
      simp only [Option.some.injEq, Prod.mk.injEq] at h
      obtain ⟨rfl, rfl⟩ := h
      obtain ⟨i, v, hi, hzv, hr⟩ := tZero_rel hz
      obtain ⟨h1, h2⟩ := fin v.cells t fun j x hx => by
        obtain ⟨u, h1, h2⟩ := (hr e w).get hx
        exact ⟨u, by simpa using h1, h2⟩
      refine ⟨.pointer (some ⟨w.heap.size, 0, none⟩), _, .inl ?_, h1, .ptr _ _ _ (by rw [add_map, if_pos rfl]), h2⟩
      simp [execOp, ho, Instr.alloc, zeroValue, typeInfo, hi, hzv, newVar, newRow]
    all_goals (simp only [compOp, compBin, compCall] at hc; repeat' (split at hc)) <;> first | (simp at hc; done) | (rename_i heq; cases heq; done) | (simp_all; done)
  case box x' =>
    cases ho : o.op <;> rw [ho] at hc <;> (try (simp only [compOp, compBin, compCall, Option.map_eq_some_iff, reduceCtorEq, and_false, exists_false] at hc; done))
    case box t x =>
      simp only [compOp, Option.map_eq_some_iff, AOp.box.injEq] at hc
      obtain ⟨y, hy, rfl⟩ := hc
      simp only [Option.some.injEq, Prod.mk.injEq] at h
      obtain ⟨rfl, rfl⟩ := h
      have hv := carg_rel hT hy
      obtain ⟨h1, h2⟩ := fin (a.eval x).cells t fun j x hx => by
        obtain ⟨u, h1, h2⟩ := hv.acells.get hx
        exact ⟨u, by simpa using h1, h2⟩
      refine ⟨.pointer (some ⟨w.heap.size, 0, none⟩), _, .inl ?_, h1, .ptr _ _ _ (by rw [add_map, if_pos rfl]), h2⟩
      simp [execOp, ho, Instr.box, newVar, newRow]
    all_goals (simp only [compOp, compBin, compCall] at hc; repeat' (split at hc)) <;> first | (simp at hc; done) | (rename_i heq; cases heq; done) | (simp_all; done)
  case buildS es' n' z' ps' =>
    cases ho : o.op <;> rw [ho] at hc <;> (try (simp only [compOp, compBin, compCall, Option.map_eq_some_iff, reduceCtorEq, and_false, exists_false] at hc; done))
    case buildSlice t n parts =>
      simp only [compOp] at hc
      split at hc
      case h_2 => cases hc
      rename_i el ht
      split at hc
      case h_2 => cases hc
      rename_i es z hs hz
      split at hc
      case isFalse => cases hc
      rename_i hcond
      simp only [Option.map_eq_some_iff, AOp.buildS.injEq] at hc
      obtain ⟨ps, hps, rfl, rfl, rfl, rfl⟩ := hc
      simp only [Option.map_eq_some_iff, Prod.mk.injEq] at h
      obtain ⟨cs, h1, rfl, rfl⟩ := h
      obtain ⟨cs', hr, h4, hsz⟩ := run_buildS (P := P) hT ht hz hs hcond.2.1 hcond.2.2 hcond.1 hps h1
      obtain ⟨h1, h2⟩ := fin cs' el fun j x hx => by
        obtain ⟨u, q1, q2⟩ := h4.get hx
        exact ⟨u, by simpa using q1, q2⟩
      refine ⟨_, _, .inl ?_, h1, .slc _ _ _ _ _ _ _ _ (by rw [add_map, if_pos rfl]) (Nat.le_refl _) (Nat.le_refl _) (fun _ => rfl) _ _ _ (heap_alloc_new w _) (by omega), h2⟩
      simp [execOp, ho, hr]
    all_goals (simp only [compOp, compBin, compCall] at hc; repeat' (split at hc)) <;> first | (simp at hc; done) | (rename_i heq; cases heq; done) | (simp_all; done)

end
end Go.Proofs.Ytooaiddfokbffaa.E

/- A region that draws its order: one order serves all, where what floats would do the same at each of its places. Conditions: none. -/
set_option linter.unusedVariables false
set_option linter.unusedSimpArgs false
namespace Go.Proofs.Ytooaiddfokbffaa.E
open Go

def AArg.tmps : AArg → List Nat
  | .t n => [n]
  | .c _ => []

def gTmps : Option (Nat × Bool) → List Nat
  | none => []
  | some (t, _) => [t]

def AI.reads : AI → List Nat
  | .op _ g o => gTmps g ++ (aReads o).flatMap AArg.tmps
  | .call _ g f args => gTmps g ++ (f.tmps ++ args.flatMap AArg.tmps)

def isFloat : AI → Bool
  | .op _ _ o => okind o != .heavy
  | .call .. => false

section
variable {tm tm' : Nat → AV} {H : AHeap} {P : Program}

theorem ev_congr {x : AArg} (h : ∀ t ∈ x.tmps, tm t = tm' t) : x.ev tm = x.ev tm' := by
  cases x with
  | t n => exact h n (by simp [AArg.tmps])
  | c x => rfl

theorem gOk_congr {g : Option (Nat × Bool)} (h : ∀ t ∈ gTmps g, tm t = tm' t) : gOk tm g = gOk tm' g := by
  cases g with
  | none => rfl
  | some q => obtain ⟨t, b⟩ := q; simp only [gOk]; rw [h t (by simp [gTmps])]

theorem op_congr {d : Option Nat} {g : Option (Nat × Bool)} {o : AOp} (h : ∀ t ∈ (AI.op d g o).reads, tm t = tm' t) : gOk tm g = gOk tm' g ∧ (∀ H, aop tm H o = aop tm' H o) ∧ anew tm o = anew tm' o := by
  simp only [AI.reads, List.mem_append, List.mem_flatMap] at h
  have h1 : ∀ x ∈ aReads o, x.ev tm = x.ev tm' := fun x hx => ev_congr fun t ht => h t (.inr ⟨x, hx, ht⟩)
  exact ⟨gOk_congr fun t ht => h t (.inl ht), fun H => aop_congr h1, anew_congr h1⟩

theorem stepV_congr {i : AI} (h : ∀ t ∈ i.reads, tm t = tm' t) {R : AV → AHeap → Prop} (hs : stepV P i tm H R) : stepV P i tm' H R := by
  cases i with
  | op d g o =>
    obtain ⟨h1, h2, _⟩ := op_congr h
    simp only [stepV] at hs ⊢
    rw [← h1, ← h2]
    exact hs
  | call d g f args =>
    simp only [AI.reads, List.mem_append, List.mem_flatMap] at h
    have h1 : gOk tm g = gOk tm' g := gOk_congr fun t ht => h t (.inl ht)
    have h2 : f.ev tm = f.ev tm' := ev_congr fun t ht => h t (.inr (.inl ht))
    have h3 : args.map (·.ev tm) = args.map (·.ev tm') := List.map_congr_left fun x hx => ev_congr fun t ht => h t (.inr (.inr ⟨x, hx, ht⟩))
    simp only [stepV] at hs ⊢
    rw [← h1, ← h2, ← h3]
    exact hs

end

/-! ### What goes ahead of what -/
def Edge (ops : Array Oper) (i k : Nat) : Prop := ∃ o, ops[i]? = some o ∧ ∃ ed ∈ o.after, Region.binds .any ed = true ∧ ed.on = k

inductive Anc (ops : Array Oper) : Nat → Nat → Prop
  | dir {i k : Nat} (h : Edge ops i k) : Anc ops i k
  | trans {i k m : Nat} (h : Edge ops i k) (h' : Anc ops k m) : Anc ops i m

def isL (listed : Array Bool) (i : Nat) : Prop := listed.getD i false = true

/-- The items of a plan, and what they are to be to each other. -/
structure PlanOk (P : Program) (N : Nat) (ops : Array Oper) (L : List (Nat × DItem)) : Prop where
  comp : ∀ (q i : Nat) (it : DItem), L[q]? = some (i, it) → ∃ o, ops[i]? = some o ∧ compI P N ops o = some it.ins
  full : ∀ i, i < ops.size → ∃ (q : Nat) (it : DItem), L[q]? = some (i, it)
  lin : ∀ (q i : Nat) (it : DItem), L[q]? = some (i, it) → ∀ k, Edge ops i k → ∃ (r : Nat) (it' : DItem), r < q ∧ L[r]? = some (k, it')
  own : ∀ (q i : Nat) (it : DItem), L[q]? = some (i, it) → isFloat it.ins = true → ∀ d, it.ins.dst = some d → d ∉ it.ins.reads
  ne : ∀ (r q ir iq : Nat) (tr tq : DItem), r < q → L[r]? = some (ir, tr) → L[q]? = some (iq, tq) → ir ≠ iq
  heavy : ∀ (r q ir iq : Nat) (tr tq : DItem), r < q → L[r]? = some (ir, tr) → L[q]? = some (iq, tq) → isFloat tr.ins = false → Anc ops iq ir
  again : ∀ (r q ir iq : Nat) (tr tq : DItem), r < q → L[r]? = some (ir, tr) → L[q]? = some (iq, tq) → isFloat tr.ins = true → isFloat tq.ins = false →
    Anc ops iq ir ∨ (r ∈ tq.chk ∧ ∀ (s js : Nat) (ts : DItem), r < s → s ≤ q → L[s]? = some (js, ts) → ∀ d, ts.ins.dst = some d → d ∉ tr.ins.reads)
  dst : ∀ (r q ir iq : Nat) (tr tq : DItem), r < q → L[r]? = some (ir, tr) → L[q]? = some (iq, tq) → ∀ d, tr.ins.dst = some d → tq.ins.dst ≠ some d
  readB : ∀ (r q ir iq : Nat) (tr tq : DItem), r < q → L[r]? = some (ir, tr) → L[q]? = some (iq, tq) → ∀ d, tr.ins.dst = some d → d ∈ tq.ins.reads → Anc ops iq ir
  readA : ∀ (r q ir iq : Nat) (tr tq : DItem), r < q → L[r]? = some (ir, tr) → L[q]? = some (iq, tq) → ∀ d, tq.ins.dst = some d → d ∈ tr.ins.reads → Anc ops iq ir

structure Rec where
  i : Nat
  it : DItem
  x : AV
  b : Nat

/-- The temporaries behind those of some steps that are told. -/
def tmF (p : Rec → Bool) (tm0 : Nat → AV) (done : List Rec) : Nat → AV := fun t =>
  match done.find? (fun r => r.it.ins.dst == some t && p r) with
  | some r => r.x
  | none => tm0 t

theorem tmF_none {p : Rec → Bool} {tm0 : Nat → AV} {done : List Rec} {t : Nat} (h : ∀ r ∈ done, r.it.ins.dst = some t → p r = false) : tmF p tm0 done t = tm0 t := by
  unfold tmF
  have : done.find? (fun r => r.it.ins.dst == some t && p r) = none := by
    rw [List.find?_eq_none]
    intro r hr
    by_cases hd : r.it.ins.dst = some t
    · simp [h r hr hd]
    · simp [hd]
  rw [this]

theorem tmF_some {p : Rec → Bool} {tm0 : Nat → AV} {done : List Rec} {t : Nat} {r : Rec} (hr : r ∈ done) (hd : r.it.ins.dst = some t) (hp : p r = true) (hu : ∀ r' ∈ done, r'.it.ins.dst = some t → r' = r) : tmF p tm0 done t = r.x := by
  unfold tmF
  cases hf : done.find? (fun r => r.it.ins.dst == some t && p r) with
  | none =>
    rw [List.find?_eq_none] at hf
    exact absurd (by simp [hd, hp]) (hf r hr)
  | some r' =>
    have h1 := List.find?_some hf
    have h2 := List.mem_of_find?_eq_some hf
    simp only [Bool.and_eq_true, beq_iff_eq] at h1
    rw [hu r' h2 h1.1]

theorem tmF_append {p : Rec → Bool} {tm0 : Nat → AV} {done : List Rec} {r : Rec} (hp : p r = true) (hn : ∀ r' ∈ done, ∀ d, r'.it.ins.dst = some d → r.it.ins.dst ≠ some d) :
    tmF p tm0 (done ++ [r]) = updO (tmF p tm0 done) r.it.ins.dst r.x := by
  funext t
  unfold tmF
  rw [List.find?_append]
  cases hd : r.it.ins.dst with
  | none => simp [hd, updO]
  | some d =>
    simp only [updO, upd]
    by_cases ht : t = d
    · subst ht
      have : done.find? (fun r => r.it.ins.dst == some t && p r) = none := by
        rw [List.find?_eq_none]
        intro r' hr'
        have h1 : ¬ r'.it.ins.dst = some t := fun h => hn r' hr' t h hd
        simp [h1]
      rw [this]
      simp [hd, hp]
    · rw [if_neg ht]
      cases done.find? (fun r => r.it.ins.dst == some t && p r) with
      | some _ => rfl
      | none => simp [hd, Ne.symm ht]

theorem tmF_skip {p : Rec → Bool} {tm0 : Nat → AV} {done : List Rec} {r : Rec} (hp : p r = false) : tmF p tm0 (done ++ [r]) = tmF p tm0 done := by
  funext t
  unfold tmF
  rw [List.find?_append]
  cases done.find? (fun r => r.it.ins.dst == some t && p r) with
  | some _ => rfl
  | none => simp [hp]

theorem tmF_congr {p p' : Rec → Bool} {tm0 : Nat → AV} {done : List Rec} (h : ∀ r ∈ done, p r = p' r) : tmF p tm0 done = tmF p' tm0 done := by
  funext t
  unfold tmF
  have : done.find? (fun r => r.it.ins.dst == some t && p r) = done.find? (fun r => r.it.ins.dst == some t && p' r) := by
    induction done with
    | nil => rfl
    | cons r rs ih =>
      simp only [List.find?_cons, h r (List.mem_cons_self ..)]
      rw [ih fun r' hr' => h r' (List.mem_cons_of_mem _ hr')]
  rw [this]

/-- A step that floats, not yet taken: it would do what the plan says. -/
def Pend (e : Emb) (st : ASt) (tq : Nat → AV) (r : Rec) : Prop :=
  match r.it.ins with
  | .op d g o => if gOk tq g = true then
      (okind o = .same ∧ ∃ x, aop tq st.heap o = some (x, st.heap) ∧ (d.isSome = true → x = r.x)) ∨
      (∃ l mk, anew tq o = some (l, mk) ∧ st.heap.get r.b = some (.cells l) ∧ e.map r.b = none ∧ r.x = mk r.b)
    else r.x = uv
  | .call .. => False

def isNew (tq : Nat → AV) : AI → Bool
  | .op _ g o => gOk tq g && okind o == .new
  | .call .. => false

end Go.Proofs.Ytooaiddfokbffaa.E

/- A region that draws its order, whole. Conditions: none. -/
set_option linter.unusedVariables false
set_option linter.unusedSimpArgs false
namespace Go.Proofs.Ytooaiddfokbffaa.E
open Go

theorem compI_op {P : Program} {N : Nat} {ops : Array Oper} {o : Oper} {d : Option Nat} {g : Option (Nat × Bool)} {ao : AOp} (hc : compI P N ops o = some (.op d g ao)) :
    compG ops o.guard = some g ∧ compOp P o.op = some ao ∧ o.dst = d ∧ dstOk N o.dst = true := by
  obtain ⟨h1, h2⟩ := compI_dst hc
  unfold compI at hc
  rw [if_pos h2] at hc
  split at hc
  · cases hc
  rename_i g' hg
  split at hc
  · split at hc
    · simp at hc
    · cases hc
  · split at hc
    · simp at hc
    · cases hc
  · simp only [Option.map_eq_some_iff] at hc
    obtain ⟨ao', hao, hc⟩ := hc
    simp only [AI.op.injEq] at hc
    obtain ⟨_, rfl, rfl⟩ := hc
    exact ⟨hg, hao, h1.symm, h2⟩

def tmA (tm0 : Nat → AV) (done : List Rec) : Nat → AV := tmF (fun _ => true) tm0 done
def tmL (listed : Array Bool) (tm0 : Nat → AV) (done : List Rec) : Nat → AV := tmF (fun r => listed.getD r.i false) tm0 done

theorem anc_listed {ops : Array Oper} {listed : Array Bool} (hd : ∀ i, isL listed i → ∀ k, Edge ops i k → isL listed k) {i m : Nat} (h : Anc ops i m) (hi : ∀ k, Edge ops i k → isL listed k) : isL listed m := by
  induction h with
  | dir h => exact hi _ h
  | trans h h' ih => exact ih (hd _ (hi _ h))

structure Inv (Ds : List Deferred) (P : Program) (N : Nat) (ops : Array Oper) (L : List (Nat × DItem)) (Q : ASt → Prop) (tm0 : Nat → AV) (e0 : Emb) (w0 : World) (listed : Array Bool) (a : Act) (w : World)
    (done : List Rec) (rest : List (Nat × DItem)) (st : ASt) (e : Emb) : Prop where
  plan : L = done.map (fun r => (r.i, r.it)) ++ rest
  tm : st.tm = tmA tm0 done
  go : swpD P (done.map (·.it.ins)) (rest.map (·.2)) Q st
  rest : ∀ p ∈ rest, ¬ isL listed p.1
  heavy : ∀ r ∈ done, isFloat r.it.ins = false → isL listed r.i
  heap : HRel e st.heap w
  trel : TRel e w (tmL listed tm0 done) a
  evo : Evo e0 w0 e w
  pend : ∀ (q : Nat) (r : Rec), done[q]? = some r → ¬ isL listed r.i → Pend e st (tmA tm0 (done.take q)) r
  newlt : ∀ (q : Nat) (r : Rec), done[q]? = some r → isNew (tmA tm0 (done.take q)) r.it.ins = true → e0.next ≤ r.b ∧ r.b < st.heap.next
  newinc : ∀ (q q' : Nat) (r r' : Rec), q < q' → done[q]? = some r → done[q']? = some r' → isNew (tmA tm0 (done.take q)) r.it.ins = true → isNew (tmA tm0 (done.take q')) r'.it.ins = true → r.b < r'.b
  down : ∀ i, isL listed i → ∀ k, Edge ops i k → isL listed k
  lsize : listed.size = ops.size
  size : N ≤ a.tmps.size
  defers : a.defers = Ds

section
variable {Ds : List Deferred} {P : Program} {N : Nat} {ops : Array Oper} {L : List (Nat × DItem)} {Q : ASt → Prop} {tm0 : Nat → AV} {e0 e : Emb} {w0 w : World} {listed : Array Bool} {a : Act}
  {done : List Rec} {rest : List (Nat × DItem)} {st : ASt}

theorem tmF_take {p : Rec → Bool} {q : Nat} {t : Nat} (h : ∀ (s : Nat) (r : Rec), q ≤ s → done[s]? = some r → r.it.ins.dst ≠ some t) : tmF p tm0 done t = tmF p tm0 (done.take q) t := by
  have hd : done = done.take q ++ done.drop q := (List.take_append_drop q done).symm
  unfold tmF
  conv => lhs; rw [hd, List.find?_append]
  cases done.take q |>.find? (fun r => r.it.ins.dst == some t && p r) with
  | some r => rfl
  | none =>
    have : (done.drop q).find? (fun r => r.it.ins.dst == some t && p r) = none := by
      rw [List.find?_eq_none]
      intro r hr
      obtain ⟨i, hi, rfl⟩ := List.getElem_of_mem hr
      have h1 := h (q + i) ((done.drop q)[i]) (Nat.le_add_right _ _) (by rw [← List.getElem?_drop]; exact List.getElem?_eq_getElem hi)
      simp only [Bool.and_eq_true, beq_iff_eq, not_and]
      intro h2; exact absurd h2 h1
    rw [this]
    rfl

theorem tmF_turn {p p' : Rec → Bool} {r : Rec} (hr : r ∈ done) (hp : p' r = true) (ho : ∀ r' ∈ done, r' ≠ r → p' r' = p r') (hu : ∀ d, r.it.ins.dst = some d → ∀ r' ∈ done, r'.it.ins.dst = some d → r' = r) :
    tmF p' tm0 done = updO (tmF p tm0 done) r.it.ins.dst r.x := by
  funext t
  have key : r.it.ins.dst ≠ some t → tmF p' tm0 done t = tmF p tm0 done t := by
    intro hne
    unfold tmF
    have : done.find? (fun r => r.it.ins.dst == some t && p' r) = done.find? (fun r => r.it.ins.dst == some t && p r) := by
      have : ∀ l : List Rec, (∀ x ∈ l, x ∈ done) → l.find? (fun r => r.it.ins.dst == some t && p' r) = l.find? (fun r => r.it.ins.dst == some t && p r) := by
        intro l
        induction l with
        | nil => intro _; rfl
        | cons x xs ih =>
          intro hm
          have hx : (x.it.ins.dst == some t && p' x) = (x.it.ins.dst == some t && p x) := by
            by_cases hd : x.it.ins.dst = some t
            · rw [ho x (hm x (List.mem_cons_self ..)) (fun h => hne (h ▸ hd))]
            · have : (x.it.ins.dst == some t) = false := by simpa using hd
              rw [this]
              rfl
          simp only [List.find?_cons, hx]
          rw [ih fun y hy => hm y (List.mem_cons_of_mem _ hy)]
      exact this done fun _ h => h
    rw [this]
  cases hd : r.it.ins.dst with
  | none => exact key (by rw [hd]; simp)
  | some d =>
    simp only [updO, upd]
    by_cases ht : t = d
    · subst ht
      rw [if_pos rfl]
      exact tmF_some hr hd hp (hu t hd)
    · rw [if_neg ht]
      exact key (by rw [hd]; simp; exact fun h => ht h.symm)

theorem Inv.at (h : Inv Ds P N ops L Q tm0 e0 w0 listed a w done rest st e) {q : Nat} {r : Rec} (hq : done[q]? = some r) : L[q]? = some (r.i, r.it) := by
  rw [h.plan, List.getElem?_append_left (by have := (List.getElem?_eq_some_iff.1 hq).1; simpa using this)]
  simp [hq]

theorem Inv.uniq (hp : PlanOk P N ops L) (h : Inv Ds P N ops L Q tm0 e0 w0 listed a w done rest st e) {q q' : Nat} {r r' : Rec} (hq : done[q]? = some r) (hq' : done[q']? = some r') {d : Nat} (hd : r.it.ins.dst = some d) (hd' : r'.it.ins.dst = some d) : q = q' := by
  rcases Nat.lt_trichotomy q q' with h1 | h1 | h1
  · exact absurd hd' (hp.dst q q' _ _ _ _ h1 (h.at hq) (h.at hq') d hd)
  · exact h1
  · exact absurd hd (hp.dst q' q _ _ _ _ h1 (h.at hq') (h.at hq) d hd')

theorem Inv.uniqI (hp : PlanOk P N ops L) (h : Inv Ds P N ops L Q tm0 e0 w0 listed a w done rest st e) {q q' : Nat} {r r' : Rec} (hq : done[q]? = some r) (hq' : done[q']? = some r') (hd : r.i = r'.i) : q = q' := by
  rcases Nat.lt_trichotomy q q' with h1 | h1 | h1
  · exact absurd hd (hp.ne q q' _ _ _ _ h1 (h.at hq) (h.at hq'))
  · exact h1
  · exact absurd hd.symm (hp.ne q' q _ _ _ _ h1 (h.at hq') (h.at hq))

theorem Inv.umem (hp : PlanOk P N ops L) (h : Inv Ds P N ops L Q tm0 e0 w0 listed a w done rest st e) {r r' : Rec} (hq : r ∈ done) (hq' : r' ∈ done) {d : Nat} (hd : r.it.ins.dst = some d) (hd' : r'.it.ins.dst = some d) : r = r' := by
  obtain ⟨q, h1⟩ := List.getElem?_of_mem hq
  obtain ⟨q', h2⟩ := List.getElem?_of_mem hq'
  have := h.uniq hp h1 h2 hd hd'
  subst this
  rw [h1] at h2
  injection h2

/-- Reads of a float agree wherever nothing behind it writes them. -/
theorem tmA_take {q : Nat} {r : Rec} (hown : isFloat r.it.ins = true → ∀ d, r.it.ins.dst = some d → d ∉ r.it.ins.reads) (hf : isFloat r.it.ins = true) (hq : done[q]? = some r)
    (h : ∀ (s : Nat) (r' : Rec), q < s → done[s]? = some r' → ∀ d, r'.it.ins.dst = some d → d ∉ r.it.ins.reads) : ∀ t ∈ r.it.ins.reads, tmA tm0 done t = tmA tm0 (done.take q) t := by
  intro t ht
  refine tmF_take fun s r' hs hr' hd => ?_
  rcases Nat.eq_or_lt_of_le hs with h1 | h1
  · subst h1
    rw [hq] at hr'
    injection hr' with hr'
    subst hr'
    exact hown hf t hd ht
  · exact h s r' h1 hr' t hd ht

theorem getD_set (listed : Array Bool) (i j : Nat) (hi : i < listed.size) : (listed.setIfInBounds i true).getD j false = if j = i then true else listed.getD j false := by
  simp only [Array.getD_eq_getD_getElem?, Array.getElem?_setIfInBounds]
  by_cases h : i = j
  · subst h; simp [hi]
  · rw [if_neg h, if_neg (fun hh => h hh.symm)]

theorem isL_set {listed : Array Bool} {i j : Nat} (hi : i < listed.size) : isL (listed.setIfInBounds i true) j ↔ (j = i ∨ isL listed j) := by
  unfold isL
  rw [getD_set listed i j hi]
  by_cases h : j = i <;> simp [h]

/-- Over the floats that follow. -/
theorem advance (hp : PlanOk P N ops L) : ∀ (rest : List (Nat × DItem)) (done : List Rec) (st : ASt) (e : Emb), Inv Ds P N ops L Q tm0 e0 w0 listed a w done rest st e →
    ∃ done' rest' st' e', Inv Ds P N ops L Q tm0 e0 w0 listed a w done' rest' st' e' ∧ ∀ p r, rest' = p :: r → isFloat p.2.ins = false := by
  intro rest
  induction rest with
  | nil => intro done st e h; exact ⟨done, [], st, e, h, fun p r hh => by cases hh⟩
  | cons p rest ih =>
    intro done st e h
    cases hf : isFloat p.2.ins with
    | false => exact ⟨done, p :: rest, st, e, h, fun p' r hh => by injection hh with h1 h2; subst h1; exact hf⟩
    | true =>
      obtain ⟨i, it⟩ := p
      obtain ⟨ins, chk⟩ := it
      cases ins with
      | call => simp [isFloat] at hf
      | op d g o =>
      have hgo := h.go
      simp only [List.map_cons, swpD, stepI, stepV] at hgo
      have hnl : ¬ isL listed i := h.rest (i, ⟨.op d g o, chk⟩) (List.mem_cons_self ..)
      have hL : L[done.length]? = some (i, ⟨.op d g o, chk⟩) := by rw [h.plan, List.getElem?_append_right (by simp)]; simp
      have hnd : ∀ r' ∈ done, ∀ d', r'.it.ins.dst = some d' → (AI.op d g o).dst ≠ some d' := by
        intro r' hr' d' hd'
        obtain ⟨q, hq⟩ := List.getElem?_of_mem hr'
        exact hp.dst q done.length _ _ _ _ (List.getElem?_eq_some_iff.1 hq).1 (h.at hq) hL d' hd'
      have hlist : ∀ b x, tmL listed tm0 (done ++ [⟨i, ⟨.op d g o, chk⟩, x, b⟩]) = tmL listed tm0 done := fun b x => tmF_skip (by simpa [isL] using hnl)
      have hall : ∀ b x, tmA tm0 (done ++ [⟨i, ⟨.op d g o, chk⟩, x, b⟩]) = updO (tmA tm0 done) d x := fun b x => tmF_append rfl hnd
      have htk : ∀ (r1 : Rec), (done ++ [r1]).take done.length = done := fun r1 => by simp
      have htk' : ∀ (r1 : Rec) (q : Nat), q < done.length → (done ++ [r1]).take q = done.take q := fun r1 q hq => by rw [List.take_append_of_le_length (by omega)]
      -- the step, where a record and the new state are given
      have fin : ∀ (x : AV) (b : Nat) (H' : AHeap) (e' : Emb), HRel e' H' w → Evo e w e' w → st.heap.next ≤ H'.next →
          (∀ (q : Nat) (r : Rec), done[q]? = some r → ¬ isL listed r.i → Pend e' ⟨updO st.tm d x, H'⟩ (tmA tm0 (done.take q)) r) →
          Pend e' ⟨updO st.tm d x, H'⟩ st.tm ⟨i, ⟨.op d g o, chk⟩, x, b⟩ →
          (isNew st.tm (.op d g o) = true → b = st.heap.next ∧ b < H'.next) →
          swpD P (done.map (·.it.ins) ++ [.op d g o]) (rest.map (·.2)) Q ⟨updO st.tm d x, H'⟩ →
          ∃ done' rest' st' e', Inv Ds P N ops L Q tm0 e0 w0 listed a w done' rest' st' e' ∧ ∀ p r, rest' = p :: r → isFloat p.2.ins = false := by
        intro x b H' e' hH hv hn hpend hme hnew hgo'
        refine ih (done ++ [⟨i, ⟨.op d g o, chk⟩, x, b⟩]) ⟨updO st.tm d x, H'⟩ e' ⟨?_, ?_, ?_, ?_, ?_, hH, ?_, h.evo.trans hv, ?_, ?_, ?_, h.down, h.lsize, h.size, h.defers⟩
        · rw [h.plan]; simp
        · show updO st.tm d x = _
          rw [hall, h.tm]
        · simpa using hgo'
        · exact fun p hp' => h.rest p (List.mem_cons_of_mem _ hp')
        · intro r hr hfr
          rcases List.mem_append.1 hr with hr | hr
          · exact h.heavy r hr hfr
          · simp only [List.mem_cons, List.not_mem_nil, or_false] at hr
            subst hr
            rw [hf] at hfr
            cases hfr
        · rw [hlist]
          exact h.trel.evo hv
        · intro q r hq hl
          rcases Nat.lt_trichotomy q done.length with h1 | h1 | h1
          · rw [List.getElem?_append_left h1] at hq
            rw [htk' _ q h1]
            exact hpend q r hq hl
          · subst h1
            rw [List.getElem?_append_right (Nat.le_refl _)] at hq
            simp at hq
            subst hq
            rw [htk, ← h.tm]
            exact hme
          · rw [List.getElem?_eq_none (by simp; omega)] at hq
            cases hq
        · intro q r hq hi
          rcases Nat.lt_trichotomy q done.length with h1 | h1 | h1
          · rw [List.getElem?_append_left h1] at hq
            rw [htk' _ q h1] at hi
            have := h.newlt q r hq hi
            exact ⟨this.1, Nat.lt_of_lt_of_le this.2 hn⟩
          · subst h1
            rw [List.getElem?_append_right (Nat.le_refl _)] at hq
            simp at hq
            subst hq
            rw [htk, ← h.tm] at hi
            obtain ⟨h2, h3⟩ := hnew hi
            refine ⟨?_, h3⟩
            show e0.next ≤ b
            rw [h2, ← h.heap.next]
            exact h.evo.next
          · rw [List.getElem?_eq_none (by simp; omega)] at hq
            cases hq
        · intro q q' r r' hqq hq hq' hi hi'
          have hlt : q' < done.length + 1 := by have := (List.getElem?_eq_some_iff.1 hq').1; simpa using this
          rw [List.getElem?_append_left (by omega)] at hq
          rw [htk' _ q (by omega)] at hi
          rcases Nat.lt_or_ge q' done.length with h1 | h1
          · rw [List.getElem?_append_left h1] at hq'
            rw [htk' _ q' h1] at hi'
            exact h.newinc q q' r r' hqq hq hq' hi hi'
          · have : q' = done.length := by omega
            subst this
            rw [List.getElem?_append_right (Nat.le_refl _)] at hq'
            simp at hq'
            subst hq'
            rw [htk, ← h.tm] at hi'
            obtain ⟨h2, h3⟩ := hnew hi'
            show r.b < b
            rw [h2]
            exact (h.newlt q r hq hi).2
      have hsame : ∀ (tm' : Nat → AV) (r : Rec) (tq : Nat → AV), Pend e st tq r → Pend e ⟨tm', st.heap⟩ tq r := fun tm' r tq hh => hh
      split at hgo
      · rename_i hg
        obtain ⟨x, H', h1, h2, h3⟩ := hgo
        cases hk : okind o with
        | heavy => simp [isFloat, hk] at hf
        | same =>
          have := same_heap hk h1
          subst this
          refine fin x 0 st.heap e h.heap (Evo.refl e w) (Nat.le_refl _) (fun q r hq hl => hsame _ _ _ (h.pend q r hq hl)) ?_ ?_ h3
          · simp only [Pend]
            rw [if_pos hg]
            exact .inl ⟨hk, x, h1, fun _ => rfl⟩
          · intro hn
            simp [isNew, hk] at hn
        | new =>
          obtain ⟨l, mk, h4, rfl, rfl⟩ := new_aop hk h1
          obtain ⟨h5, h6⟩ := h.heap.laid (.cells l)
          refine fin (mk st.heap.next) st.heap.next (st.heap.new (.cells l)) _ h5 h6 (Nat.le_succ _) (fun q r hq hl => ?_) ?_ ?_ h3
          · have hpd := h.pend q r hq hl
            unfold Pend at hpd ⊢
            split
            · rename_i d' g' o' hins
              rw [hins] at hpd
              simp only at hpd
              split
              · rename_i hg'
                rw [if_pos hg'] at hpd
                rcases hpd with ⟨k1, x', k2, k3⟩ | ⟨l', mk', k1, k2, k3, k4⟩
                · exact .inl ⟨k1, x', same_more k1 (fun b o hb => h.heap.get b o hb) k2 _, k3⟩
                · refine .inr ⟨l', mk', k1, ?_, k3, k4⟩
                  show (st.heap.new _).get r.b = _
                  rw [new_get, if_neg (by have := h.heap.get _ _ k2; omega)]
                  exact k2
              · rename_i hg'
                rw [if_neg hg'] at hpd
                exact hpd
            · rename_i hins
              rw [hins] at hpd
              exact hpd
          · simp only [Pend]
            rw [if_pos hg]
            refine .inr ⟨l, mk, h4, ?_, ?_, rfl⟩
            · show (st.heap.new _).get _ = _
              rw [new_get, if_pos rfl]
            · exact h.heap.fresh _ (Nat.le_refl _)
          · exact fun _ => ⟨rfl, Nat.lt_succ_self _⟩
      · rename_i hg
        obtain ⟨h2, h3⟩ := hgo
        refine fin uv 0 st.heap e h.heap (Evo.refl e w) (Nat.le_refl _) (fun q r hq hl => hsame _ _ _ (h.pend q r hq hl)) ?_ ?_ h3
        · simp [Pend, hg]
        · intro hn
          simp only [isNew, Bool.and_eq_true] at hn
          exact absurd hn.1 hg

end
end Go.Proofs.Ytooaiddfokbffaa.E

/- A region that draws its order: the whole of it, by one order that serves all. Conditions: none. -/
set_option linter.unusedVariables false
set_option linter.unusedSimpArgs false
namespace Go.Proofs.Ytooaiddfokbffaa.E
open Go

section
variable {Ds : List Deferred} {rd : Option Nat} {n : Nat} {P : Program} {N : Nat} {ops : Array Oper} {L : List (Nat × DItem)} {Q : ASt → Prop} {tm0 : Nat → AV} {e0 e : Emb} {w0 w : World} {listed : Array Bool} {a : Act}
  {done : List Rec} {rest : List (Nat × DItem)} {st : ASt}

theorem ready_iff (hs : listed.size = ops.size) {i : Nat} : i ∈ Region.ready .any ops listed ↔ i < ops.size ∧ ¬ isL listed i ∧ ∀ k, Edge ops i k → isL listed k := by
  unfold Region.ready
  simp only [List.mem_filter, List.mem_range, Bool.and_eq_true, Bool.not_eq_true']
  constructor
  · rintro ⟨h1, h2, h3⟩
    refine ⟨h1, ?_, ?_⟩
    · unfold isL
      simp only [Array.getD_eq_getD_getElem?, Array.getElem?_eq_getElem (hs ▸ h1 : i < listed.size), Option.getD_some] at h2 ⊢
      simp [h2]
    · rintro k ⟨o, ho, ed, hed, hb, rfl⟩
      rw [ho] at h3
      simp only [Option.map_some, Option.getD_some, Array.all_eq_true'] at h3
      have := h3 ed hed
      simpa [hb, isL] using this
  · rintro ⟨h1, h2, h3⟩
    refine ⟨h1, ?_, ?_⟩
    · unfold isL at h2
      simp only [Array.getD_eq_getD_getElem?, Array.getElem?_eq_getElem (hs ▸ h1 : i < listed.size), Option.getD_some] at h2 ⊢
      simpa using h2
    · rw [Array.getElem?_eq_getElem h1]
      simp only [Option.map_some, Option.getD_some, Array.all_eq_true']
      intro ed hed
      by_cases hb : Region.binds .any ed = true
      · have := h3 ed.on ⟨_, Array.getElem?_eq_getElem h1, ed, hed, hb, rfl⟩
        simp only [isL] at this
        simp [this]
      · simp [hb]

theorem all_listed (hp : PlanOk P N ops L) (hs : listed.size = ops.size) (hr : Region.ready .any ops listed = []) : ∀ (q i : Nat) (it : DItem), L[q]? = some (i, it) → isL listed i := by
  intro q
  induction q using Nat.strongRecOn with
  | _ q ih =>
    intro i it hq
    apply Classical.byContradiction
    intro hn
    have : i ∈ Region.ready .any ops listed := by
      rw [ready_iff hs]
      obtain ⟨o, ho, _⟩ := hp.comp q i it hq
      refine ⟨(Array.getElem?_eq_some_iff.1 ho).1, hn, fun k hk => ?_⟩
      obtain ⟨r, it', h1, h2⟩ := hp.lin q i it hq k hk
      exact ih r h1 k it' h2
    rw [hr] at this
    cases this

theorem wp_of_wpOp {i : Nat} {o : Oper} {K : Act → World → Prop} {QQ : Exit → Act → World → Prop} (ho : ops[i]? = some o)
    (h : stepW rd n P ops o a w K QQ) : wpOpIn (Rr rd) n P ops QQ i K a w := by
  unfold wpOpIn
  rw [ho]
  exact h

theorem updO_congr {tm tm' : Nat → AV} {d : Option Nat} {x y : AV} (h : tm = tm') (hx : d.isSome = true → x = y) : updO tm d x = updO tm' d y := by
  subst h
  cases d with
  | none => rfl
  | some d => rw [hx rfl]

/-- The records' values, where one more step is listed. -/
theorem Inv.list (hp : PlanOk P N ops L) (h : Inv Ds P N ops L Q tm0 e0 w0 listed a w done rest st e) {q : Nat} {r : Rec} (hq : done[q]? = some r) (hi : r.i < listed.size) :
    tmL (listed.setIfInBounds r.i true) tm0 done = updO (tmL listed tm0 done) r.it.ins.dst r.x := by
  refine tmF_turn (List.mem_of_getElem? hq) ?_ ?_ ?_
  · exact (isL_set hi).2 (.inl rfl)
  · intro r' hr' hne
    rw [getD_set listed r.i r'.i hi, if_neg]
    intro hh
    obtain ⟨q', hq'⟩ := List.getElem?_of_mem hr'
    have := h.uniqI hp hq' hq hh
    subst this
    rw [hq] at hq'
    injection hq' with hq'
    exact hne hq'.symm
  · intro d hd r' hr' hd'
    exact h.umem hp hr' (List.mem_of_getElem? hq) hd' hd

theorem down_set (hd : ∀ i, isL listed i → ∀ k, Edge ops i k → isL listed k) {i : Nat} (hi : i < listed.size) (hr : ∀ k, Edge ops i k → isL listed k) : ∀ j, isL (listed.setIfInBounds i true) j → ∀ k, Edge ops j k → isL (listed.setIfInBounds i true) k := by
  intro j hj k hk
  rw [isL_set hi] at hj ⊢
  rcases hj with rfl | hj
  · exact .inr (hr k hk)
  · exact .inr (hd j hj k hk)

theorem draw_walk (hp : PlanOk P N ops L) (QQ : Exit → Act → World → Prop) (hQ : ∀ st' a' w' e', Q st' → StRel Ds N e' st' a' w' → Evo e0 w0 e' w' → QQ .normal a' w') :
    ∀ (fuel : Nat) (listed : Array Bool) (a : Act) (w : World) (done : List Rec) (rest : List (Nat × DItem)) (st : ASt) (e : Emb) (u : List Nat), Inv Ds P N ops L Q tm0 e0 w0 listed a w done rest st e →
      (∀ p r, rest = p :: r → isFloat p.2.ins = false) → u.length ≤ fuel → (∀ i, i < ops.size → ¬ isL listed i → i ∈ u) → wpAnyIn (Rr rd) n P .any ops QQ fuel listed a w := by
  intro fuel
  have stop : ∀ (listed : Array Bool) (a : Act) (w : World) (done : List Rec) (rest : List (Nat × DItem)) (st : ASt) (e : Emb), Inv Ds P N ops L Q tm0 e0 w0 listed a w done rest st e →
      Region.ready .any ops listed = [] → QQ .normal a w := by
    intro listed a w done rest st e h hr
    have hall := all_listed hp h.lsize hr
    have hrest : rest = [] := by
      cases rest with
      | nil => rfl
      | cons p rest =>
        exfalso
        refine h.rest p (List.mem_cons_self ..) (hall done.length p.1 p.2 ?_)
        rw [h.plan, List.getElem?_append_right (by simp)]
        simp
    subst hrest
    have hgo := h.go
    simp only [List.map_nil, swpD] at hgo
    refine hQ st a w e hgo ⟨h.heap, ?_, h.size, h.defers⟩ h.evo
    have : tmL listed tm0 done = tmA tm0 done := tmF_congr fun r hr => by
      obtain ⟨q, hq⟩ := List.getElem?_of_mem hr
      exact hall q r.i r.it (h.at hq)
    rw [h.tm, ← this]
    exact h.trel
  induction fuel with
  | zero =>
    intro listed a w done rest st e u h hh hu hun
    have hr : Region.ready .any ops listed = [] := by
      apply List.eq_nil_iff_forall_not_mem.2
      intro i hi
      obtain ⟨h1, h2, _⟩ := (ready_iff h.lsize).1 hi
      have := hun i h1 h2
      have hl := List.length_pos_of_mem this
      omega
    exact ⟨hr, stop listed a w done rest st e h hr⟩
  | succ fuel ih =>
    intro listed a w done rest st e u h hh hu hun
    refine ⟨stop listed a w done rest st e h, fun i hi => ?_⟩
    obtain ⟨h1, h2, h3⟩ := (ready_iff h.lsize).1 hi
    have hisz : i < listed.size := by rw [h.lsize]; exact h1
    have hu' : (u.erase i).length ≤ fuel := by rw [List.length_erase_of_mem (hun i h1 h2)]; omega
    have hun' : ∀ j, j < ops.size → ¬ isL (listed.setIfInBounds i true) j → j ∈ u.erase i := by
      intro j hj hnj
      rw [isL_set hisz] at hnj
      exact (List.mem_erase_of_ne (fun hji => hnj (.inl hji))).2 (hun j hj fun hl => hnj (.inr hl))
    have hdown := down_set h.down hisz h3
    have hanc : ∀ m, Anc ops i m → isL listed m := fun m hm => anc_listed h.down hm h3
    obtain ⟨q, it, hq⟩ := hp.full i h1
    obtain ⟨o, ho, hc⟩ := hp.comp q i it hq
    have hdst := compI_dst hc
    refine wp_of_wpOp ho ?_
    rcases Nat.lt_or_ge q done.length with hlt | hge
    · -- a float, done already
      have hq' := hq
      rw [h.plan, List.getElem?_append_left (by simpa using hlt)] at hq'
      simp only [List.getElem?_map, Option.map_eq_some_iff, Prod.mk.injEq] at hq'
      obtain ⟨r, hr, rfl, rfl⟩ := hq'
      have hfl : isFloat r.it.ins = true := by
        cases hf : isFloat r.it.ins with
        | true => rfl
        | false => exact absurd (h.heavy r (List.mem_of_getElem? hr) hf) h2
      have hreads : ∀ t ∈ r.it.ins.reads, tmA tm0 (done.take q) t = tmL listed tm0 done t := by
        intro t ht
        by_cases hex : ∃ (s : Nat) (r' : Rec), s < q ∧ done[s]? = some r' ∧ r'.it.ins.dst = some t
        · obtain ⟨s, r', k1, k2, k3⟩ := hex
          have k4 : isL listed r'.i := hanc _ (hp.readB s q _ _ _ _ k1 (h.at k2) hq t k3 ht)
          have k5 : r' ∈ done.take q := by
            refine List.mem_of_getElem? (i := s) ?_
            rw [List.getElem?_take, if_pos k1]
            exact k2
          rw [show tmA tm0 (done.take q) t = r'.x from tmF_some k5 k3 rfl (fun r2 hr2 hd2 => h.umem hp (List.mem_of_mem_take hr2) (List.mem_of_getElem? k2) hd2 k3)]
          exact (tmF_some (p := fun r => listed.getD r.i false) (List.mem_of_getElem? k2) k3 k4 (fun r2 hr2 hd2 => h.umem hp hr2 (List.mem_of_getElem? k2) hd2 k3)).symm
        · rw [show tmA tm0 (done.take q) t = tm0 t from tmF_none fun r2 hr2 hd2 => by
            exfalso
            obtain ⟨s, hs⟩ := List.getElem?_of_mem hr2
            rw [List.getElem?_take] at hs
            split at hs
            · exact hex ⟨s, r2, by assumption, hs, hd2⟩
            · cases hs]
          refine (tmF_none fun r2 hr2 hd2 => ?_).symm
          obtain ⟨s, hs⟩ := List.getElem?_of_mem hr2
          rcases Nat.lt_trichotomy s q with k1 | k1 | k1
          · exact absurd ⟨s, r2, k1, hs, hd2⟩ hex
          · subst k1
            rw [hr] at hs
            injection hs with hs
            subst hs
            exact absurd ht (hp.own s _ _ hq hfl t hd2)
          · have k4 := hp.readA q s _ _ _ _ k1 hq (h.at hs) t hd2 ht
            cases hl : listed.getD r2.i false with
            | false => rfl
            | true => exact absurd (anc_listed h.down k4 (h.down _ hl)) h2
      have hnewc : ∀ (x : AV) (u' : Value) (w' : World) (e' : Emb), HRel e' st.heap w' → VRel e' w' x u' → (r.it.ins.dst.isSome = true → x = r.x) → Evo e0 w0 e' w' → Evo0 e w e' w' →
          (∀ (q' : Nat) (r' : Rec), done[q']? = some r' → r' ≠ r → ¬ isL listed r'.i → Pend e' st (tmA tm0 (done.take q')) r') →
          wpAnyIn (Rr rd) n P .any ops QQ fuel (listed.setIfInBounds r.i true) (a.put o.dst u') w' := by
        intro x u' w' e' hH hx hxr hv hv0 hpd
        refine ih _ _ _ done rest st e' (u.erase r.i) ⟨h.plan, h.tm, h.go, ?_, ?_, hH, ?_, hv, ?_, h.newlt, h.newinc, hdown, ?_, ?_, ?_⟩ hh hu' hun'
        · intro p hp' hl
          rw [isL_set hisz] at hl
          rcases hl with hl | hl
          · obtain ⟨s, hs⟩ := List.getElem?_of_mem hp'
            refine absurd hl.symm (hp.ne q (done.length + s) r.i p.1 r.it p.2 (by omega) hq ?_)
            rw [h.plan, List.getElem?_append_right (by simp)]
            simpa using hs
          · exact h.rest p hp' hl
        · intro r' hr' hf'
          rw [isL_set hisz]
          exact .inr (h.heavy r' hr' hf')
        · rw [h.list hp hr hisz, ← updO_congr rfl hxr, hdst.1]
          exact put_tm (fun t => (h.trel t).evo0 hv0) h.size hdst.2 hx
        · intro q' r' hq' hl
          rw [isL_set hisz] at hl
          exact hpd q' r' hq' (fun hrr => hl (.inl (hrr ▸ rfl))) (fun hl' => hl (.inr hl'))
        · simpa using h.lsize
        · rw [put_size]; exact h.size
        · rw [put_defers]; exact h.defers
      have hpd := h.pend q r hr h2
      unfold Pend at hpd
      split at hpd
      case h_2 => exact hpd.elim
      rename_i d g ao hins
      have hcc := hc
      rw [hins] at hcc
      obtain ⟨hcg, hcop, hcd, hcN⟩ := compI_op hcc
      obtain ⟨hgc, hac, hnc⟩ := op_congr (d := d) (g := g) (o := ao) (by rw [← hins]; exact hreads)
      have hsome : d.isSome = true → r.it.ins.dst.isSome = true := by rw [hins]; exact id
      have hsome' : r.it.ins.dst.isSome = true → d.isSome = true := by rw [hins]; exact id
      have keep : ∀ (e' : Emb) (w' : World), Evo e w e' w' → ∀ (q' : Nat) (r' : Rec), done[q']? = some r' → r' ≠ r → ¬ isL listed r'.i → Pend e' st (tmA tm0 (done.take q')) r' := by
        intro e' w' hv q' r' hq' _ hl
        have hp' := h.pend q' r' hq' hl
        unfold Pend at hp' ⊢
        split
        · rename_i d2 g2 o2 hins2
          rw [hins2] at hp'
          simp only at hp'
          split
          · rename_i hg2
            rw [if_pos hg2] at hp'
            rcases hp' with k | ⟨l', mk', k1, k2, k3, k4⟩
            · exact .inl k
            · exact .inr ⟨l', mk', k1, k2, hv.un _ (by rw [h.heap.next]; exact h.heap.get _ _ k2) k3, k4⟩
          · rename_i hg2
            rw [if_neg hg2] at hp'
            exact hp'
        · rename_i hins2
          rw [hins2] at hp'
          exact hp'
      by_cases hnew : gOk (tmA tm0 (done.take q)) g = true ∧ ∃ l mk, anew (tmA tm0 (done.take q)) ao = some (l, mk) ∧ st.heap.get r.b = some (.cells l) ∧ e.map r.b = none ∧ r.x = mk r.b
      · obtain ⟨hg, l, mk, k1, k2, k3, k4⟩ := hnew
        unfold stepW
        rw [wanted_iff h.trel h.size hcg, ← hgc, hg, if_pos rfl]
        obtain ⟨u', w', k5, k6, k7, k8⟩ := anew_sound h.heap h.trel o hcop (hnc ▸ k1) k2 k3
        have hisn : isNew (tmA tm0 (done.take q)) r.it.ins = true := by
          rw [hins]
          simp only [isNew, hg, Bool.true_and, anew_kind k1]
          rfl
        have hv : Evo e0 w0 (e.add r.b w.heap.size) w' := by
          refine ⟨h.evo.toEvo0.trans k8, fun b hb hm => ?_⟩
          rw [add_map, if_neg (by have := (h.newlt q r hr hisn).1; omega)]
          exact h.evo.un b hb hm
        have hgoal := hnewc (mk r.b) u' w' _ k6 k7 (fun _ => k4.symm) hv k8 (fun q' r' hq' hne hl => by
          have hp' := h.pend q' r' hq' hl
          unfold Pend at hp' ⊢
          split
          · rename_i d2 g2 o2 hins2
            rw [hins2] at hp'
            simp only at hp'
            split
            · rename_i hg2
              rw [if_pos hg2] at hp'
              rcases hp' with k | ⟨l', mk', m1, m2, m3, m4⟩
              · exact .inl k
              · refine .inr ⟨l', mk', m1, m2, ?_, m4⟩
                have hisn' : isNew (tmA tm0 (done.take q')) r'.it.ins = true := by
                  rw [hins2]
                  simp only [isNew, hg2, Bool.true_and, anew_kind m1]
                  rfl
                rw [add_map, if_neg]
                · exact m3
                · rcases Nat.lt_trichotomy q q' with n1 | n1 | n1
                  · have := h.newinc q q' r r' n1 hr hq' hisn hisn'; omega
                  · subst n1; rw [hr] at hq'; injection hq' with hq'; exact absurd hq'.symm hne
                  · have := h.newinc q' q r' r n1 hq' hr hisn' hisn; omega
            · rename_i hg2
              rw [if_neg hg2] at hp'
              exact hp'
          · rename_i hins2
            rw [hins2] at hp'
            exact hp')
        refine oper_wpIn (compI_quiet hc) ?_
        rcases k5 with k5 | ⟨k5, rfl⟩
        · rw [k5]; exact hgoal
        · rw [k5]; exact hgoal
      · have hstep : stepV P r.it.ins (tmL listed tm0 done) st.heap fun y H' => H' = st.heap ∧ (r.it.ins.dst.isSome = true → y = r.x) := by
          rw [hins]
          simp only [stepV]
          rw [← hgc, ← hac]
          split
          · rename_i hg
            rw [if_pos hg] at hpd
            rcases hpd with ⟨k1, x, k2, k3⟩ | k
            · exact ⟨x, _, k2, rfl, k3⟩
            · exact absurd ⟨hg, k⟩ hnew
          · rename_i hg
            rw [if_neg hg] at hpd
            exact ⟨by simp, fun _ => hpd.symm⟩
        exact stepV_sound hc h.heap h.trel h.size hstep fun x H' u' w' e' ⟨hk1, hk2⟩ hH hx hv => by
          subst hk1
          exact hnewc x u' w' e' hH hx hk2 (h.evo.trans hv) hv.toEvo0 (keep e' w' hv)
    · -- the step in hand
      have hq' := hq
      rw [h.plan, List.getElem?_append_right (by simpa using hge)] at hq'
      cases rest with
      | nil => simp at hq'
      | cons p rest =>
        have hheavy := hh p rest rfl
        have hqd : q = done.length := by
          apply Classical.byContradiction
          intro hne
          have hp0 : L[done.length]? = some (p.1, p.2) := by
            rw [h.plan, List.getElem?_append_right (by simp)]
            simp
          exact h.rest p (List.mem_cons_self ..) (hanc _ (hp.heavy done.length q _ _ _ _ (by omega) hp0 hq hheavy))
        subst hqd
        simp at hq'
        obtain ⟨i', it'⟩ := p
        simp only [Prod.mk.injEq] at hq'
        obtain ⟨rfl, rfl⟩ := hq'
        simp only at hheavy
        have hgo := h.go
        simp only [List.map_cons, swpD, stepI] at hgo
        have hreads : ∀ t ∈ it'.ins.reads, st.tm t = tmL listed tm0 done t := by
          intro t ht
          rw [h.tm]
          by_cases hex : ∃ r' ∈ done, r'.it.ins.dst = some t
          · obtain ⟨r', k2, k3⟩ := hex
            obtain ⟨s, hs⟩ := List.getElem?_of_mem k2
            have k4 : isL listed r'.i := hanc _ (hp.readB s done.length _ _ _ _ (List.getElem?_eq_some_iff.1 hs).1 (h.at hs) hq t k3 ht)
            rw [show tmA tm0 done t = r'.x from tmF_some k2 k3 rfl (fun r2 hr2 hd2 => h.umem hp hr2 k2 hd2 k3)]
            exact (tmF_some (p := fun r => listed.getD r.i false) k2 k3 k4 (fun r2 hr2 hd2 => h.umem hp hr2 k2 hd2 k3)).symm
          · rw [show tmA tm0 done t = tm0 t from tmF_none fun r2 hr2 hd2 => absurd ⟨r2, hr2, hd2⟩ hex]
            exact (tmF_none fun r2 hr2 hd2 => absurd ⟨r2, hr2, hd2⟩ hex).symm
        refine stepV_sound hc h.heap h.trel h.size (stepV_congr hreads hgo) fun x H' u' w' e' hk hH hx hv => ?_
        obtain ⟨hchk, hgo'⟩ := hk
        have hL : L[done.length]? = some (i', it') := hq
        have hnd : ∀ r' ∈ done, ∀ d', r'.it.ins.dst = some d' → it'.ins.dst ≠ some d' := by
          intro r' hr' d' hd'
          obtain ⟨s, hs⟩ := List.getElem?_of_mem hr'
          exact hp.dst s done.length _ _ _ _ (List.getElem?_eq_some_iff.1 hs).1 (h.at hs) hL d' hd'
        have hnotnew : ∀ tm, isNew tm it'.ins = false := by
          intro tm
          cases hi' : it'.ins with
          | call => rfl
          | op d g o =>
            rw [hi'] at hheavy
            simp only [isFloat, bne_eq_false_iff_eq] at hheavy
            simp [isNew, hheavy]
        have hall : tmA tm0 (done ++ [⟨i', it', x, 0⟩]) = updO (tmA tm0 done) it'.ins.dst x := tmF_append rfl hnd
        have htk' : ∀ (r1 : Rec) (s : Nat), s < done.length → (done ++ [r1]).take s = done.take s := fun r1 s hs => by rw [List.take_append_of_le_length (by omega)]
        have hset : tmL (listed.setIfInBounds i' true) tm0 (done ++ [⟨i', it', x, 0⟩]) = updO (tmL listed tm0 done) it'.ins.dst x := by
          rw [show tmL (listed.setIfInBounds i' true) tm0 (done ++ [⟨i', it', x, 0⟩]) = updO (tmL (listed.setIfInBounds i' true) tm0 done) it'.ins.dst x from
            tmF_append (by rw [getD_set _ _ _ hisz]; simp) hnd]
          rw [show tmL (listed.setIfInBounds i' true) tm0 done = tmL listed tm0 done from tmF_congr fun r hr => by
            rw [getD_set _ _ _ hisz, if_neg]
            intro hri
            obtain ⟨s, hs⟩ := List.getElem?_of_mem hr
            exact hp.ne s done.length _ _ _ _ (List.getElem?_eq_some_iff.1 hs).1 (h.at hs) hL hri]
        have hinv : Inv Ds P N ops L Q tm0 e0 w0 (listed.setIfInBounds i' true) (a.put o.dst u') w' (done ++ [⟨i', it', x, 0⟩]) rest ⟨updO st.tm it'.ins.dst x, H'⟩ e' := by
          refine ⟨?_, ?_, ?_, ?_, ?_, hH, ?_, h.evo.trans hv, ?_, ?_, ?_, hdown, ?_, ?_, ?_⟩
          · rw [h.plan]; simp
          · show updO st.tm _ x = _
            rw [hall, h.tm]
          · simpa using hgo'
          · intro p hp' hl
            rw [isL_set hisz] at hl
            rcases hl with hl | hl
            · obtain ⟨s, hs⟩ := List.getElem?_of_mem hp'
              refine absurd hl.symm (hp.ne done.length (done.length + 1 + s) i' p.1 it' p.2 (by omega) hL ?_)
              rw [h.plan, List.getElem?_append_right (by simp; omega)]
              simp only [List.length_map]
              rw [show done.length + 1 + s - done.length = s + 1 by omega]
              simpa using hs
            · exact h.rest p (List.mem_cons_of_mem _ hp') hl
          · intro r hr hf
            rw [isL_set hisz]
            rcases List.mem_append.1 hr with hr | hr
            · exact .inr (h.heavy r hr hf)
            · simp only [List.mem_cons, List.not_mem_nil, or_false] at hr
              subst hr
              exact .inl rfl
          · rw [hset, hdst.1]
            exact put_tm (fun t => (h.trel t).evo hv) h.size hdst.2 hx
          · intro s r hs hl
            rw [isL_set hisz] at hl
            have hsl : s < done.length := by
              rcases Nat.lt_or_ge s done.length with k | k
              · exact k
              · rw [List.getElem?_append_right k] at hs
                have hm := List.mem_of_getElem? hs
                simp only [List.mem_cons, List.not_mem_nil, or_false] at hm
                subst hm
                exact absurd (.inl rfl) hl
            rw [List.getElem?_append_left hsl] at hs
            rw [htk' _ s hsl]
            have hnl : ¬ isL listed r.i := fun hl' => hl (.inr hl')
            have hpd := h.pend s r hs hnl
            have hfl : isFloat r.it.ins = true := by
              cases hf : isFloat r.it.ins with
              | true => rfl
              | false => exact absurd (h.heavy r (List.mem_of_getElem? hs) hf) hnl
            rcases hp.again s done.length _ _ _ _ hsl (h.at hs) hL hfl hheavy with k | ⟨k, knw⟩
            · exact absurd (hanc _ k) hnl
            have hag := hchk s k r.it.ins (by simp [hs])
            have hrd : ∀ t ∈ r.it.ins.reads, st.tm t = tmA tm0 (done.take s) t := by
              intro t ht
              rw [h.tm]
              exact tmA_take (hp.own s _ _ (h.at hs)) hfl hs (fun s' r' h1' h2' d hd => knw s' r'.i r'.it h1' (Nat.le_of_lt (List.getElem?_eq_some_iff.1 h2').1) (h.at h2') d hd) t ht
            have hrd2 : ∀ t ∈ r.it.ins.reads, updO st.tm it'.ins.dst x t = st.tm t := by
              intro t ht
              cases hd : it'.ins.dst with
              | none => rfl
              | some d =>
                simp only [updO, upd]
                rw [if_neg]
                intro htd
                subst htd
                exact knw done.length i' it' hsl (Nat.le_refl _) hL t hd ht
            unfold Pend at hpd ⊢
            split
            case h_2 =>
              rename_i hins
              rw [hins] at hpd
              exact hpd
            rename_i d g ao hins
            rw [hins] at hpd hag hrd hrd2
            simp only at hpd
            obtain ⟨q1, q2, q3⟩ := op_congr hrd
            obtain ⟨p1, p2, p3⟩ := op_congr hrd2
            simp only [again] at hag
            rw [q1] at hag
            split
            · rename_i hg
              rw [if_pos hg] at hpd
              have hag := hag hg
              have hx' : ∀ d', d = some d' → st.tm d' = r.x := by
                intro d' hd'
                rw [h.tm]
                exact tmF_some (List.mem_of_getElem? hs) (by rw [hins]; exact hd') rfl (fun r2 hr2 hd2 => h.umem hp hr2 (List.mem_of_getElem? hs) hd2 (by rw [hins]; exact hd'))
              rcases hpd with ⟨k1, x', k2, k3⟩ | ⟨l', mk', k1, k2, k3, k4⟩
              · rw [k1] at hag
                refine .inl ⟨k1, ?_⟩
                cases d with
                | none =>
                  obtain ⟨y, hy⟩ := hag
                  exact ⟨y, by rw [← q2, ← p2]; exact hy, fun hh => by simp at hh⟩
                | some d' => exact ⟨st.tm d', by rw [← q2, ← p2]; exact hag, fun _ => hx' d' rfl⟩
              · rw [anew_kind k1] at hag
                refine .inr ⟨l', mk', k1, ?_, hv.un _ (by rw [h.heap.next]; exact h.heap.get _ _ k2) k3, k4⟩
                cases d with
                | none => exact hag.elim
                | some d' =>
                  have := hag r.b (by rw [hx' d' rfl, k4]; exact anew_block k1 _)
                  show H'.get r.b = _
                  rw [show H'.get r.b = st.heap.get r.b from this]
                  exact k2
            · rename_i hg
              rw [if_neg hg] at hpd
              exact hpd
          · intro s r hs hi'
            rcases Nat.lt_or_ge s done.length with k | k
            · rw [List.getElem?_append_left k] at hs
              rw [htk' _ s k] at hi'
              have := h.newlt s r hs hi'
              refine ⟨this.1, Nat.lt_of_lt_of_le this.2 ?_⟩
              show st.heap.next ≤ H'.next
              rw [← h.heap.next, ← hH.next]
              exact hv.next
            · rw [List.getElem?_append_right k] at hs
              have hm := List.mem_of_getElem? hs
              simp only [List.mem_cons, List.not_mem_nil, or_false] at hm
              subst hm
              rw [hnotnew] at hi'
              cases hi'
          · intro s s' r r' hss hs hs' hi1 hi2
            rcases Nat.lt_or_ge s' done.length with k | k
            · rw [List.getElem?_append_left k] at hs'
              rw [List.getElem?_append_left (by omega)] at hs
              rw [htk' _ _ k] at hi2
              rw [htk' _ _ (by omega)] at hi1
              exact h.newinc s s' r r' hss hs hs' hi1 hi2
            · rw [List.getElem?_append_right k] at hs'
              have hm := List.mem_of_getElem? hs'
              simp only [List.mem_cons, List.not_mem_nil, or_false] at hm
              subst hm
              rw [hnotnew] at hi2
              cases hi2
          · simpa using h.lsize
          · rw [put_size]; exact h.size
          · rw [put_defers]; exact h.defers
        obtain ⟨done2, rest2, st2, e2, k1, k2⟩ := advance hp _ _ _ _ hinv
        exact ih _ _ _ done2 rest2 st2 e2 (u.erase i') k1 k2 hu' hun'

/-- The region, whole. -/
theorem draw_sound (hm : P.follows .mixedOrders = true) {id : Nat} (hp : PlanOk P N ops L) (hS : StRel Ds N e st a w) {K : ASt → Prop} (h : swpD P [] (L.map (·.2)) K st)
    {QQ : Exit → Act → World → Prop} (hQ : ∀ st' a' w' e', K st' → StRel Ds N e' st' a' w' → Evo e w e' w' → QQ .normal a' w') : (Code.region id ops true).wpIn (Rr rd) n P QQ a w := by
  refine wpIn_region_any hm ?_
  have hnone : ∀ i, ¬ isL (Array.replicate ops.size false) i := by
    intro i
    unfold isL
    simp only [Array.getD_eq_getD_getElem?, Array.getElem?_replicate]
    split <;> simp
  have hd := Evo.drew e w
  have hinv : Inv Ds P N ops L K st.tm e w (Array.replicate ops.size false) a w.drew [] L st e := by
    refine ⟨rfl, rfl, h, fun p _ => hnone _, fun r hr => (by cases hr), hS.heap.drew, ?_, hd, fun q r hq => (by simp at hq), fun q r hq => (by simp at hq), fun q q' r r' _ hq => (by simp at hq), fun i hi => absurd hi (hnone i), by simp, hS.size, hS.defers⟩
    exact hS.tm.evo hd
  obtain ⟨done2, rest2, st2, e2, k1, k2⟩ := advance hp _ _ _ _ hinv
  exact draw_walk hp QQ (fun st' a' w' e' hk hs hv => hQ st' a' w' e' hk hs hv) ops.size _ a _ done2 rest2 st2 e2 (List.range ops.size) k1 k2 (by simp) (fun i hi _ => List.mem_range.2 hi)

end
end Go.Proofs.Ytooaiddfokbffaa.E

/- What of a plan is looked at, and the code of a function over abstract states. Conditions: none. -/
set_option linter.unusedVariables false
set_option linter.unusedSimpArgs false
namespace Go.Proofs.Ytooaiddfokbffaa.E
open Go

/-! ### A plan is looked at -/
def edgesOf (ops : Array Oper) (i : Nat) : List Nat :=
  match ops[i]? with
  | some o => (o.after.toList.filter (Region.binds .any)).map (·.on)
  | none => []

theorem edgesOf_iff {ops : Array Oper} {i k : Nat} : k ∈ edgesOf ops i ↔ Edge ops i k := by
  unfold edgesOf Edge
  cases h : ops[i]? with
  | none => simp
  | some o =>
    simp only [List.mem_map, List.mem_filter, Array.mem_toList_iff, Option.some.injEq]
    constructor
    · rintro ⟨ed, ⟨h1, h2⟩, rfl⟩
      exact ⟨o, rfl, ed, h1, h2, rfl⟩
    · rintro ⟨o', rfl, ed, h1, h2, rfl⟩
      exact ⟨ed, ⟨h1, h2⟩, rfl⟩

def look (ms : List (Nat × Nat)) (k : Nat) : Nat :=
  match ms with
  | [] => 0
  | (i, m) :: r => if i = k then m else look r k

def maskL (ms : List (Nat × Nat)) : List Nat → Nat
  | [] => 0
  | k :: r => (1 <<< k) ||| (look ms k ||| maskL ms r)

theorem look_anc {ops : Array Oper} {ms : List (Nat × Nat)} (h : ∀ p ∈ ms, ∀ j, p.2.testBit j = true → Anc ops p.1 j) {k j : Nat} (hj : (look ms k).testBit j = true) : Anc ops k j := by
  induction ms with
  | nil => simp [look] at hj
  | cons p ms ih =>
    obtain ⟨i, m⟩ := p
    simp only [look] at hj
    split at hj
    · rename_i hi
      subst hi
      exact h (i, m) (List.mem_cons_self ..) j hj
    · exact ih (fun p hp => h p (List.mem_cons_of_mem _ hp)) hj

theorem maskL_anc {ops : Array Oper} {ms : List (Nat × Nat)} (h : ∀ p ∈ ms, ∀ j, p.2.testBit j = true → Anc ops p.1 j) {i : Nat} : ∀ (ks : List Nat), (∀ k ∈ ks, Edge ops i k) → ∀ j, (maskL ms ks).testBit j = true → Anc ops i j := by
  intro ks
  induction ks with
  | nil => intro _ j hj; simp [maskL] at hj
  | cons k ks ih =>
    intro hk j hj
    simp only [maskL, Nat.testBit_or, Bool.or_eq_true] at hj
    rcases hj with hj | hj | hj
    · rw [Nat.one_shiftLeft, Nat.testBit_two_pow] at hj
      have : k = j := by simpa using hj
      subst this
      exact .dir (hk k (List.mem_cons_self ..))
    · exact .trans (hk k (List.mem_cons_self ..)) (look_anc h hj)
    · exact ih (fun k hk' => hk k (List.mem_cons_of_mem _ hk')) j hj

def inO (d : Option Nat) (l : List Nat) : Bool :=
  match d with
  | some d => l.any (· == d)
  | none => false
def sameO : Option Nat → Option Nat → Bool
  | some d, some d' => d == d'
  | _, _ => false

theorem inO_false {d : Option Nat} {l : List Nat} (h : inO d l = false) {k : Nat} (hk : d = some k) : k ∉ l := by
  subst hk
  simp only [inO] at h
  intro hm
  have : (l.any fun x => x == k) = true := List.any_eq_true.2 ⟨k, hm, beq_self_eq_true k⟩
  rw [this] at h
  cases h

/-- A step against one that comes ahead of it; 'post': those between, and itself. -/
def oneP (m : Nat) (p : Nat) (tr : Nat × DItem) (btw : List (Nat × DItem)) (tq : Nat × DItem) : Bool :=
  !(tr.1 == tq.1) && !sameO tr.2.ins.dst tq.2.ins.dst && (m.testBit tr.1 ||
    (isFloat tr.2.ins && !inO tr.2.ins.dst tq.2.ins.reads && !inO tq.2.ins.dst tr.2.ins.reads &&
      (isFloat tq.2.ins || (tq.2.chk.any (· == p) && btw.all fun s => !inO s.2.ins.dst tr.2.ins.reads))))

def onesP (m : Nat) (tq : Nat × DItem) : Nat → List (Nat × DItem) → Bool
  | _, [] => true
  | p, tr :: r => oneP m p tr r tq && onesP m tq (p + 1) r

theorem onesP_spec {m : Nat} {tq : Nat × DItem} : ∀ (l : List (Nat × DItem)) (p : Nat), onesP m tq p l = true → ∀ (r : Nat) (tr : Nat × DItem), l[r]? = some tr → oneP m (p + r) tr (l.drop (r + 1)) tq = true := by
  intro l
  induction l with
  | nil => intro p _ r tr h; simp at h
  | cons x l ih =>
    intro p h r tr hr
    simp only [onesP, Bool.and_eq_true] at h
    cases r with
    | zero =>
      simp only [List.getElem?_cons_zero, Option.some.injEq] at hr
      subst hr
      simpa using h.1
    | succ r =>
      have := ih (p + 1) h.2 r tr (by simpa using hr)
      rw [show p + (r + 1) = p + 1 + r by omega]
      simpa using this

def stepP (ops : Array Oper) (m : Nat) (pre : List (Nat × DItem)) (tq : Nat × DItem) : Bool :=
  (edgesOf ops tq.1).all (fun k => pre.any fun t => t.1 == k) && (!isFloat tq.2.ins || !inO tq.2.ins.dst tq.2.ins.reads) && onesP m tq 0 pre

def planP (ops : Array Oper) : List (Nat × DItem) → List (Nat × Nat) → List (Nat × DItem) → Bool
  | _, _, [] => true
  | pre, ms, tq :: r => stepP ops (maskL ms (edgesOf ops tq.1)) pre tq && planP ops (pre ++ [tq]) ((tq.1, maskL ms (edgesOf ops tq.1)) :: ms) r

theorem planP_spec {ops : Array Oper} : ∀ (l pre : List (Nat × DItem)) (ms : List (Nat × Nat)), planP ops pre ms l = true → (∀ p ∈ ms, ∀ j, p.2.testBit j = true → Anc ops p.1 j) →
    ∀ (q : Nat) (tq : Nat × DItem), l[q]? = some tq → ∃ m, (∀ j, m.testBit j = true → Anc ops tq.1 j) ∧ stepP ops m (pre ++ l.take q) tq = true := by
  intro l
  induction l with
  | nil => intro pre ms _ _ q tq h; simp at h
  | cons x l ih =>
    intro pre ms h hms q tq hq
    simp only [planP, Bool.and_eq_true] at h
    have hm := maskL_anc hms (i := x.1) (edgesOf ops x.1) fun k hk => edgesOf_iff.1 hk
    cases q with
    | zero =>
      simp only [List.getElem?_cons_zero, Option.some.injEq] at hq
      subst hq
      exact ⟨_, hm, by simpa using h.1⟩
    | succ q =>
      obtain ⟨m, h1, h2⟩ := ih (pre ++ [x]) _ h.2 (fun p hp => by
        rcases List.mem_cons.1 hp with rfl | hp
        · exact hm
        · exact hms p hp) q tq (by simpa using hq)
      exact ⟨m, h1, by simpa using h2⟩

def compPlan (P : Program) (N : Nat) (ops : Array Oper) : List (Nat × List Nat) → Option (List (Nat × DItem))
  | [] => some []
  | (i, chk) :: r => match (ops[i]?).bind (compI P N ops), compPlan P N ops r with
    | some ai, some l => some ((i, ⟨ai, chk⟩) :: l)
    | _, _ => none

theorem compPlan_spec {P : Program} {N : Nat} {ops : Array Oper} : ∀ (pl : List (Nat × List Nat)) (L : List (Nat × DItem)), compPlan P N ops pl = some L → ∀ (q i : Nat) (it : DItem), L[q]? = some (i, it) → ∃ o, ops[i]? = some o ∧ compI P N ops o = some it.ins := by
  intro pl
  induction pl with
  | nil => intro L h q i it hq; simp only [compPlan, Option.some.injEq] at h; subst h; simp at hq
  | cons p pl ih =>
    intro L h q i it hq
    obtain ⟨i', chk⟩ := p
    simp only [compPlan] at h
    split at h
    · rename_i ai l h1 h2
      injection h with h
      subst h
      cases q with
      | zero =>
        simp only [List.getElem?_cons_zero, Option.some.injEq, Prod.mk.injEq] at hq
        obtain ⟨rfl, rfl⟩ := hq
        obtain ⟨o, h3, h4⟩ := Option.bind_eq_some_iff.1 h1
        exact ⟨o, h3, h4⟩
      | succ q => exact ih l h2 q i it (by simpa using hq)
    · cases h

def planOk (ops : Array Oper) (L : List (Nat × DItem)) : Bool :=
  (List.range ops.size).all (fun i => L.any fun t => t.1 == i) && planP ops [] [] L

theorem planOk_spec {P : Program} {N : Nat} {ops : Array Oper} {pl : List (Nat × List Nat)} {L : List (Nat × DItem)} (hc : compPlan P N ops pl = some L) (h : planOk ops L = true) : PlanOk P N ops L := by
  simp only [planOk, Bool.and_eq_true] at h
  obtain ⟨h1, h2⟩ := h
  have key := planP_spec L [] [] h2 (fun p hp => by cases hp)
  simp only [List.nil_append] at key
  have two : ∀ (r q ir iq : Nat) (tr tq : DItem), r < q → L[r]? = some (ir, tr) → L[q]? = some (iq, tq) → ∃ m, (∀ j, m.testBit j = true → Anc ops iq j) ∧ oneP m r (ir, tr) ((L.take q).drop (r + 1)) (iq, tq) = true := by
    intro r q ir iq tr tq hrq hr hq
    obtain ⟨m, k1, k2⟩ := key q _ hq
    simp only [stepP, Bool.and_eq_true] at k2
    have := onesP_spec _ _ k2.2 r (ir, tr) (by rw [List.getElem?_take, if_pos hrq]; exact hr)
    rw [Nat.zero_add] at this
    exact ⟨m, k1, this⟩
  refine ⟨compPlan_spec pl L hc, ?_, ?_, ?_, ?_, ?_, ?_, ?_, ?_, ?_⟩
  · intro i hi
    rw [List.all_eq_true] at h1
    have := h1 i (List.mem_range.2 hi)
    rw [List.any_eq_true] at this
    obtain ⟨⟨i', it⟩, h3, h4⟩ := this
    obtain ⟨q, hq⟩ := List.getElem?_of_mem h3
    have : i' = i := by simpa using h4
    subst this
    exact ⟨q, it, hq⟩
  · intro q i it hq k hk
    obtain ⟨m, _, k2⟩ := key q _ hq
    simp only [stepP, Bool.and_eq_true, List.all_eq_true] at k2
    have := k2.1.1 k (edgesOf_iff.2 hk)
    rw [List.any_eq_true] at this
    obtain ⟨⟨i', it'⟩, h3, h4⟩ := this
    have : i' = k := by simpa using h4
    subst this
    obtain ⟨r, hr⟩ := List.getElem?_of_mem h3
    rw [List.getElem?_take] at hr
    split at hr
    · exact ⟨r, it', by assumption, hr⟩
    · cases hr
  · intro q i it hq hf d hd
    obtain ⟨m, _, k2⟩ := key q _ hq
    simp only [stepP, Bool.and_eq_true] at k2
    have := k2.1.2
    simp only [hf, Bool.not_true, Bool.false_or, Bool.not_eq_true'] at this
    exact inO_false this hd
  · intro r q ir iq tr tq hrq hr hq hii
    obtain ⟨m, _, k⟩ := two r q ir iq tr tq hrq hr hq
    simp [oneP, hii] at k
  · intro r q ir iq tr tq hrq hr hq hf
    obtain ⟨m, hm, k⟩ := two r q ir iq tr tq hrq hr hq
    simp only [oneP, hf, Bool.false_and, Bool.or_false, Bool.and_eq_true] at k
    exact hm _ k.2
  · intro r q ir iq tr tq hrq hr hq hf hf'
    obtain ⟨m, hm, k⟩ := two r q ir iq tr tq hrq hr hq
    simp only [oneP, hf', Bool.false_or, Bool.and_eq_true, Bool.or_eq_true] at k
    rcases k.2 with k | k
    · exact .inl (hm _ k)
    · refine .inr ⟨?_, fun s js ts hrs hsq hs d hd => ?_⟩
      · obtain ⟨x, h3, h4⟩ := List.any_eq_true.1 k.2.1
        have : x = r := by simpa using h4
        exact this ▸ h3
      · rcases Nat.eq_or_lt_of_le hsq with h3 | h3
        · subst h3
          rw [hq] at hs
          simp only [Option.some.injEq, Prod.mk.injEq] at hs
          obtain ⟨rfl, rfl⟩ := hs
          exact inO_false (by simpa using k.1.2) hd
        · have := List.all_eq_true.1 k.2.2 (js, ts) (List.mem_of_getElem? (i := s - (r + 1)) (by
            rw [List.getElem?_drop, List.getElem?_take, show r + 1 + (s - (r + 1)) = s by omega, if_pos h3]
            exact hs))
          exact inO_false (by simpa using this) hd
  · intro r q ir iq tr tq hrq hr hq d hd hd'
    obtain ⟨m, hm, k⟩ := two r q ir iq tr tq hrq hr hq
    simp [oneP, hd, hd', sameO] at k
  · intro r q ir iq tr tq hrq hr hq d hd hm'
    obtain ⟨m, hm, k⟩ := two r q ir iq tr tq hrq hr hq
    simp only [oneP, Bool.and_eq_true, Bool.or_eq_true] at k
    rcases k.2 with k | k
    · exact hm _ k
    · exact absurd hm' (inO_false (by simpa using k.1.1.2) hd)
  · intro r q ir iq tr tq hrq hr hq d hd hm'
    obtain ⟨m, hm, k⟩ := two r q ir iq tr tq hrq hr hq
    simp only [oneP, Bool.and_eq_true, Bool.or_eq_true] at k
    rcases k.2 with k | k
    · exact hm _ k
    · exact absurd hm' (inO_false (by simpa using k.1.2) hd)

/-! ### Code -/
def findPl (id : Nat) : List (Nat × List (Nat × List Nat)) → List (Nat × List Nat)
  | [] => []
  | (i, p) :: r => if i = id then p else findPl id r

def compCode (P : Program) (N : Nat) (plans : List (Nat × List (Nat × List Nat))) : Code → Option ACode
  | .skip => some .skip
  | .label _ => some .skip
  | .ret => some .ret
  | .exit id => some (.exit id)
  | .region id ops draw => if draw = true then
      match compPlan P N ops (findPl id plans) with
      | some L => if planOk ops L = true then some (.draw (L.map (·.2))) else none
      | none => none
    else (compIs P N ops ops.toList).map .ops
  | .seq a b => match compCode P N plans a, compCode P N plans b with
    | some x, some y => some (.seq x y)
    | _, _ => none
  | .cond c a b => match carg c, compCode P N plans a, compCode P N plans b with
    | some z, some x, some y => some (.cond z x y)
    | _, _, _ => none
  | .block id b => (compCode P N plans b).map (.block id)
  | .loop b => (compCode P N plans b).map .loop
  | .scope b => compCode P N plans b
  | .rangeFunc g ps x y => match carg g, compCode P N plans x, compCode P N plans y with
    | some g', some ax, some ay => some (.rangeF g' ps N x y ax ay)
    | _, _, _ => none
  | _ => none

def exitOf : AExit → Exit
  | .normal => .normal
  | .ret => .ret
  | .exit id => .exit id

section
variable {Ds : List Deferred} {rd : Option Nat} {n : Nat} {P : Program} {N : Nat} {plans : List (Nat × List (Nat × List Nat))}

theorem stepR_scope {b : Frame} {a : Act} {k : List Item} {cs : List Frame} {w : World} {c : Code} : step P (lone (b.atR a (.code (.scope c) :: k)) cs w) = .next (lone (b.atR a (.code c :: .inScope c :: k)) cs w) :=
  step_lone_go (by simp [stepG, stepG.exec, Frame.atR])
theorem stepR_inScope {b : Frame} {a : Act} {k : List Item} {cs : List Frame} {w : World} {c : Code} : step P (lone (b.atR a (.inScope c :: k)) cs w) = .next (lone (b.atR a k) cs w) :=
  step_lone_go (by simp [stepG, stepG.exec, Frame.atR])

theorem wpIn_scope_straight {F : Fence} {n : Nat} {Q : Exit → Act → World → Prop} {a : Act} {w : World} {c : Code} (h : c.wpIn F n P (Exit.noGoto Q) a w) : (Code.scope c).wpIn F n P Q a w := by
  intro b k cs hro hb hr
  have h0 : (lone (b.atR a (.code (.scope c) :: k)) cs w).fenced P F := fenced_calm hb hr rfl
  obtain ⟨e, a₁, w₁, hq, harr⟩ := h b (.inScope c :: k) cs hro hb hr
  cases e with
  | normal => exact ⟨.normal, a₁, w₁, hq, .head h0 stepR_scope (StepsIn.trans harr (.one (fenced_calm hb hr rfl) stepR_inScope))⟩
  | exit id =>
    have hx : exitTo id (.inScope c :: k) = exitTo id k := by simp [exitTo]
    exact ⟨.exit id, a₁, w₁, hq, fun k' hk => .head h0 stepR_scope (harr.1 k' (by rw [hx]; exact hk)),
      fun hr' hk => let ⟨k₁, h1, h2⟩ := harr.2 hr' (by rw [hx]; exact hk); ⟨k₁, h1, .head h0 stepR_scope h2⟩⟩
  | goto l => exact hq.elim
  | ret => exact ⟨_, a₁, w₁, hq, .of_steps (.one h0 stepR_scope) harr⟩
  | panic ch => exact ⟨_, a₁, w₁, hq, .of_steps (.one h0 stepR_scope) harr⟩
  | outgrown => exact ⟨_, a₁, w₁, hq, .of_steps (.one h0 stepR_scope) harr⟩

theorem swp_sound (hm : P.follows .mixedOrders = true) : ∀ (c : Code) (ac : ACode), compCode P N plans c = some ac → ∀ (e : Emb) (w : World) (st : ASt) (a : Act), StRel Ds N e st a w →
    ∀ (Q : AExit → ASt → Prop), swp P ac Q st → ∀ (QQ : Exit → Act → World → Prop), (∀ x st' a' w' e', Q x st' → StRel Ds N e' st' a' w' → Evo e w e' w' → QQ (exitOf x) a' w') → c.wpIn (Rr rd) n P QQ a w := by
  intro c
  induction c with
  | skip =>
    intro ac hc e w st a hS Q h QQ hQ
    simp only [compCode, Option.some.injEq] at hc
    subst hc
    exact wpIn_skip (hQ .normal _ _ _ _ h hS (Evo.refl e w))
  | label l =>
    intro ac hc e w st a hS Q h QQ hQ
    simp only [compCode, Option.some.injEq] at hc
    subst hc
    exact wpIn_label (hQ .normal _ _ _ _ h hS (Evo.refl e w))
  | ret =>
    intro ac hc e w st a hS Q h QQ hQ
    simp only [compCode, Option.some.injEq] at hc
    subst hc
    exact wpIn_ret (hQ .ret _ _ _ _ h hS (Evo.refl e w))
  | exit id =>
    intro ac hc e w st a hS Q h QQ hQ
    simp only [compCode, Option.some.injEq] at hc
    subst hc
    exact wpIn_exit (hQ (.exit id) _ _ _ _ h hS (Evo.refl e w))
  | region id ops draw =>
    intro ac hc e w st a hS Q h QQ hQ
    simp only [compCode] at hc
    split at hc
    · rename_i hd
      subst hd
      split at hc
      · rename_i L hL
        split at hc
        · rename_i hok
          injection hc with hc
          subst hc
          exact draw_sound hm (planOk_spec hL hok) hS h fun st' a' w' e' k hs hv => hQ .normal st' a' w' e' k hs hv
        · cases hc
      · cases hc
    · rename_i hd
      have : draw = false := by simpa using hd
      subst this
      simp only [Option.map_eq_some_iff] at hc
      obtain ⟨is, his, rfl⟩ := hc
      exact wpIn_region_list (list_sound ops.toList is his e w st a hS (Q .normal) h QQ fun st' a' w' e' k hs hv => hQ .normal st' a' w' e' k hs hv)
  | seq x y ihx ihy =>
    intro ac hc e w st a hS Q h QQ hQ
    simp only [compCode] at hc
    split at hc
    · rename_i ax ay hx hy
      injection hc with hc
      subst hc
      refine wpIn_seq (ihx ax hx e w st a hS _ h _ fun q st' a' w' e' k hs hv => ?_)
      cases q with
      | normal => exact ihy ay hy e' w' st' a' hs Q k QQ fun q2 st2 a2 w2 e2 k2 hs2 hv2 => hQ q2 st2 a2 w2 e2 k2 hs2 (hv.trans hv2)
      | ret => exact hQ .ret _ _ _ _ k hs hv
      | exit id => exact hQ (.exit id) _ _ _ _ k hs hv
    · cases hc
  | cond c x y ihx ihy =>
    intro ac hc e w st a hS Q h QQ hQ
    simp only [compCode] at hc
    split at hc
    · rename_i z ax ay hz hx hy
      injection hc with hc
      subst hc
      simp only [swp] at h
      split at h
      · rename_i t ht
        have hv := carg_rel hS.tm hz
        rw [ht] at hv
        generalize hu : a.eval c = u at hv
        cases hv
        cases t with
        | true => exact wpIn_cond_true hu (ihx ax hx e w st a hS Q (by simpa using h) QQ hQ)
        | false => exact wpIn_cond_false hu (ihy ay hy e w st a hS Q (by simpa using h) QQ hQ)
      · exact h.elim
    · cases hc
  | block id b ih =>
    intro ac hc e w st a hS Q h QQ hQ
    simp only [compCode, Option.map_eq_some_iff] at hc
    obtain ⟨ab, hb, rfl⟩ := hc
    refine wpIn_block (ih ab hb e w st a hS _ h _ fun q st' a' w' e' k hs hv => ?_)
    cases q with
    | normal => exact hQ .normal _ _ _ _ k hs hv
    | ret => exact hQ .ret _ _ _ _ k hs hv
    | exit id' =>
      simp only [inBlockQ] at k
      simp only [exitOf, Exit.inBlock]
      split at k
      · rename_i hid
        rw [if_pos hid]
        exact hQ .normal _ _ _ _ k hs hv
      · rename_i hid
        rw [if_neg hid]
        exact hQ (.exit id') _ _ _ _ k hs hv
  | loop b ih =>
    intro ac hc e w st a hS Q h QQ hQ
    simp only [compCode, Option.map_eq_some_iff] at hc
    obtain ⟨ab, hb, rfl⟩ := hc
    obtain ⟨m, hn⟩ := h
    refine wpIn_loop_rounds m ?_
    induction m generalizing e w st a with
    | zero => exact hn.elim
    | succ m ihn =>
      refine ih ab hb e w st a hS _ hn _ fun q st' a' w' e' k hs hv => ?_
      cases q with
      | normal => exact ihn e' w' st' a' hs (fun q2 st2 a2 w2 e2 k2 hs2 hv2 => hQ q2 st2 a2 w2 e2 k2 hs2 (hv.trans hv2)) k
      | ret => exact hQ .ret _ _ _ _ k hs hv
      | exit id => exact hQ (.exit id) _ _ _ _ k hs hv
  | scope b ih =>
    intro ac hc e w st a hS Q h QQ hQ
    simp only [compCode] at hc
    refine wpIn_scope_straight (ih ac hc e w st a hS Q h _ fun q st' a' w' e' k hs hv => ?_)
    have := hQ q st' a' w' e' k hs hv
    cases q <;> exact this
  | rangeFunc g ps x y ihx ihy =>
    intro ac hc e w st a hS Q h QQ hQ
    simp only [compCode] at hc
    split at hc
    · injection hc with hc
      subst hc
      exact h.elim
    · cases hc
  | _ =>
    intro ac hc
    simp [compCode] at hc

end

/-! ### Functions -/
inductive ARes where
  | t (n : Nat)
  | c (addr n : Nat) (agg : Bool)

structure AFn where
  res : List ARes
  code : ACode

def compRes (P : Program) : List ResultVar → Option (List ARes)
  | [] => some []
  | .tmp t :: r => (compRes P r).map (.t t :: ·)
  | .cell a t :: r => match P.underlying t, tSize P t, compRes P r with
    | some d, some n, some l => some (.c a n (aggD d) :: l)
    | _, _, _ => none

def compFn (P : Program) (f : FuncId) (plans : List (Nat × List (Nat × List Nat))) : Option AFn :=
  match P.funcs[f]? with
  | some fn => match fn.body with
    | some c => if (fn.name == "runtime.NumGoroutine") = true then none else match compCode P fn.ntmps plans c, compRes P fn.results.toList with
      | some ac, some rs => some ⟨rs, ac⟩
      | _, _ => none
    | none => none
  | none => none

def resOne (st : ASt) : ARes → Option AV
  | .t n => some (st.tm n)
  | .c a n agg => (aload st.heap n (st.tm a)).bind (apack agg)

def resAll (st : ASt) : List ARes → Option (List AV)
  | [] => some []
  | r :: rs => match resOne st r, resAll st rs with
    | some x, some xs => some (x :: xs)
    | _, _ => none

def packR : List AV → AV
  | [x] => x
  | xs => .tup xs

def postF (rs : List ARes) (R : AV → AHeap → Prop) : AExit → ASt → Prop
  | .exit _, _ => False
  | _, st => ∃ vs, resAll st rs = some vs ∧ R (packR vs) st.heap

def argTm (args : List AV) : Nat → AV := fun n => args.getD n uv

section
variable {P : Program} {e : Emb} {w : World}

def resSem (tmps : Array Value) : ResultVar → Sem Value
  | .tmp t => pure (tmps.getD t undef)
  | .cell c t => do loadVar t (← asAddr (tmps.getD c undef))

theorem run_resOne {rv : ResultVar} {r : ARes} {rest : List ResultVar} {rs : List ARes} (hc : compRes P (rv :: rest) = some (r :: rs)) {N : Nat} {st : ASt} {a : Act} {Ds : List Deferred} (hS : StRel Ds N e st a w) {x : AV} (h : resOne st r = some x) :
    ∃ u, (resSem a.tmps rv).run P w = .ok u w ∧ VRel e w x u := by
  cases rv with
  | tmp t =>
    simp only [compRes, Option.map_eq_some_iff, List.cons.injEq] at hc
    obtain ⟨_, _, rfl, _⟩ := hc
    simp only [resOne, Option.some.injEq] at h
    subst h
    exact ⟨_, rfl, hS.tm t⟩
  | cell c t =>
    simp only [compRes] at hc
    split at hc
    · rename_i d n l hd hn hl
      simp only [Option.some.injEq, List.cons.injEq] at hc
      obtain ⟨rfl, _⟩ := hc
      simp only [resOne] at h
      obtain ⟨cs, h1, h2⟩ := Option.bind_eq_some_iff.1 h
      obtain ⟨ad, us, h3, hl', hcell, hr⟩ := aload_rel hS.heap (hS.tm c) h1
      have e1 : ∀ ad : Addr, (Instr.loadAt t (.pointer (some ad))).run P w = (loadVar t ad).run P w := fun ad => by simp [Instr.loadAt, Instr.sureAddr]
      simp only [resSem, h3]
      rcases apack_rel hr h2 with ⟨ha, hv⟩ | ⟨ha, v, rfl, hv⟩
      · exact ⟨_, by simp only [asAddr, Sem.run_bind, Sem.run_pure, Result.andThen_ok]; rw [← e1]; exact run_loadAt_agg hd ha (by rw [hl']; exact hn) hcell, hv⟩
      · exact ⟨_, by simp only [asAddr, Sem.run_bind, Sem.run_pure, Result.andThen_ok]; rw [← e1]; exact run_loadAt_one hd ha (by simpa [Addr.add] using hcell 0 v rfl), hv⟩
    · cases hc

theorem run_resAll {N : Nat} {st : ASt} {a : Act} {Ds : List Deferred} (hS : StRel Ds N e st a w) : ∀ (rv : List ResultVar) (rs : List ARes), compRes P rv = some rs → ∀ vs, resAll st rs = some vs →
    ∃ us, (rv.mapM (resSem a.tmps)).run P w = .ok us w ∧ LRel e w vs us := by
  intro rv
  induction rv with
  | nil =>
    intro rs hc vs h
    simp only [compRes, Option.some.injEq] at hc
    subst hc
    simp only [resAll, Option.some.injEq] at h
    subst h
    exact ⟨[], rfl, rfl, fun i x u h => by simp at h⟩
  | cons r rv ih =>
    intro rs hc vs h
    have hsp : ∃ r' rs', rs = r' :: rs' ∧ compRes P rv = some rs' := by
      cases r with
      | tmp t => simp only [compRes, Option.map_eq_some_iff] at hc; obtain ⟨l, h1, rfl⟩ := hc; exact ⟨_, _, rfl, h1⟩
      | cell c t =>
        simp only [compRes] at hc
        split at hc
        · rename_i h1; injection hc with hc; exact ⟨_, _, hc.symm, h1⟩
        · cases hc
    obtain ⟨r', rs', rfl, hrs⟩ := hsp
    simp only [resAll] at h
    split at h
    · rename_i x xs h1 h2
      injection h with h
      subst h
      obtain ⟨u, k1, k2⟩ := run_resOne hc hS h1
      obtain ⟨us, k3, k4⟩ := ih rs' hrs xs h2
      refine ⟨u :: us, ?_, ?_⟩
      · rw [List.mapM_cons]
        simp only [Sem.run_bind]
        erw [k1]
        simp only [Result.andThen_ok, Sem.run_bind]
        erw [k3]
        simp
      · refine ⟨by simp [k4.1], fun i y v hy hv => ?_⟩
        cases i with
        | zero => simp at hy hv; subst hy hv; exact k2
        | succ i => exact k4.2 i y v (by simpa using hy) (by simpa using hv)
    · cases h

theorem argTm_rel {args : List AV} {us : List Value} (h : LRel e w args us) (n : Nat) : TRel e w (argTm args) ⟨us.toArray ++ Array.replicate n undef, []⟩ := by
  intro k
  unfold argTm
  rw [List.getD_eq_getElem?_getD, Array.getD_eq_getD_getElem?]
  rcases Nat.lt_or_ge k us.length with hk | hk
  · have hk' : k < args.length := by rw [← h.1]; exact hk
    rw [Array.getElem?_append_left (by simpa using hk), List.getElem?_eq_getElem hk']
    simp only [List.getElem?_toArray, List.getElem?_eq_getElem hk, Option.getD_some]
    exact h.2 k _ _ (List.getElem?_eq_getElem hk') (List.getElem?_eq_getElem hk)
  · rw [List.getElem?_eq_none (by rw [← h.1]; exact hk), Array.getElem?_append_right (by simpa using hk), Array.getElem?_replicate]
    simp only [Option.getD_none]
    split <;> exact VRel.uv

theorem SCall.intro (hm : P.follows .mixedOrders = true) {f : FuncId} {plans : List (Nat × List (Nat × List Nat))} {F : AFn} (hc : compFn P f plans = some F) {args : List AV} {H : AHeap} {R : AV → AHeap → Prop}
    (h : swp P F.code (postF F.res R) ⟨argTm args, H⟩) : SCall P f args H R := by
  unfold compFn at hc
  split at hc
  case h_2 => cases hc
  rename_i fn hf
  split at hc
  case h_2 => cases hc
  rename_i c hb
  split at hc
  case isTrue => cases hc
  rename_i hn
  split at hc
  case h_2 => cases hc
  rename_i ac rs hac hrs
  injection hc with hc
  subst hc
  refine ⟨⟨fn, hf, by simpa using hn, by rw [hb]; rfl⟩, fun e w us hH hL => callsIn_wide.1 (callsIn_of_wp (F := Fence.wide) (n := 0) hf hb trivial ?_)⟩
  have hS : StRel [] fn.ntmps e ⟨argTm args, H⟩ ⟨us.toArray ++ Array.replicate (fn.ntmps - us.toArray.size) undef, []⟩ w := ⟨hH, argTm_rel hL _, by simp; omega, rfl⟩
  refine swp_sound (rd := none) hm c ac hac e w _ _ hS _ h _ fun x st' a' w' e' k hs hv => ?_
  have fin : (∃ vs, resAll st' rs = some vs ∧ R (packR vs) st'.heap) → a'.defers = [] ∧ ∃ v, (results fn a'.tmps).run P w' = .ok v w' ∧ CPost e w R (.returned v) w' := by
    rintro ⟨vs, h1, h2⟩
    obtain ⟨us', k1, k2⟩ := run_resAll hs _ _ hrs vs h1
    refine ⟨hs.defers, ?_⟩
    have hmap : (fn.results.mapM (resSem a'.tmps)).run P w' = .ok us'.toArray w' := by
      rw [Array.mapM_eq_mapM_toList]
      simp only [Sem.run_map]
      erw [k1]
      rfl
    have hres : (results fn a'.tmps).run P w' = .ok (if h : us'.toArray.size = 1 then us'.toArray[0] else .tuple us'.toArray) w' := by
      unfold results
      simp only [Sem.run_bind]
      erw [hmap]
      rfl
    refine ⟨_, hres, _, _, _, e', rfl, h2, hs.heap, ?_, hv⟩
    match vs, us', k2 with
    | [x], [u], k2 => exact k2.head
    | [], [], k2 => exact .tup _ _ (by simp) (fun i x u h => by simp at h)
    | x :: y :: xs, u :: v :: us, k2 =>
      rw [dif_neg (by simp)]
      exact .tup _ _ (by simpa using k2.1) (fun i x u h1 h2 => k2.2 i x u h1 (by simpa using h2))
    | [x], [], k2 => have := k2.1; simp at this
    | [x], u :: v :: us, k2 => have := k2.1; simp at this
    | [], u :: us, k2 => have := k2.1; simp at this
    | x :: y :: xs, [], k2 => have := k2.1; simp at this
    | x :: y :: xs, [u], k2 => have := k2.1; simp at this
  cases x with
  | normal => exact fin k
  | ret => exact fin k
  | exit id => exact k.elim

end
end Go.Proofs.Ytooaiddfokbffaa.E

/- A plan for each region that draws its order: what floats goes as far ahead as it may. Conditions: none. -/
set_option linter.unusedVariables false
namespace Go.Proofs.Ytooaiddfokbffaa.E
open Go

def floatAt (P : Program) (N : Nat) (ops : Array Oper) (i : Nat) : Bool :=
  match (ops[i]?).bind (compI P N ops) with
  | some a => isFloat a
  | none => false

def readyAt (ops : Array Oper) (done : List Nat) : List Nat :=
  (List.range ops.size).filter fun i => !done.any (· == i) && (edgesOf ops i).all fun k => done.any (· == k)

def autoOrder (P : Program) (N : Nat) (ops : Array Oper) : Nat → List Nat → List Nat
  | 0, done => done
  | n + 1, done => match (readyAt ops done).find? (floatAt P N ops) with
    | some i => autoOrder P N ops n (done ++ [i])
    | none => match readyAt ops done with
      | i :: _ => autoOrder P N ops n (done ++ [i])
      | [] => done

def chkOf (P : Program) (N : Nat) (ops : Array Oper) (m : Nat) : Nat → List Nat → List Nat
  | _, [] => []
  | p, r :: rs => if !m.testBit r && floatAt P N ops r then p :: chkOf P N ops m (p + 1) rs else chkOf P N ops m (p + 1) rs

def autoPl (P : Program) (N : Nat) (ops : Array Oper) : List Nat → List (Nat × Nat) → List Nat → List (Nat × List Nat)
  | _, _, [] => []
  | pre, ms, i :: r => (i, if floatAt P N ops i then [] else chkOf P N ops (maskL ms (edgesOf ops i)) 0 pre) :: autoPl P N ops (pre ++ [i]) ((i, maskL ms (edgesOf ops i)) :: ms) r

def autoPlan (P : Program) (N : Nat) (ops : Array Oper) : List (Nat × List Nat) := autoPl P N ops [] [] (autoOrder P N ops ops.size [])

def plansOf (P : Program) (N : Nat) : Code → List (Nat × List (Nat × List Nat))
  | .region id ops draw => if draw = true then [(id, autoPlan P N ops)] else []
  | .seq a b => plansOf P N a ++ plansOf P N b
  | .cond _ a b => plansOf P N a ++ plansOf P N b
  | .block _ b => plansOf P N b
  | .loop b => plansOf P N b
  | .scope b => plansOf P N b
  | .rangeFunc _ _ a b => plansOf P N a ++ plansOf P N b
  | _ => []

/-- The codes of the loops over functions, from the left. -/
def rangeCodes : Code → List (Code × Code)
  | .seq a b => rangeCodes a ++ rangeCodes b
  | .cond _ a b => rangeCodes a ++ rangeCodes b
  | .block _ b => rangeCodes b
  | .loop b => rangeCodes b
  | .scope b => rangeCodes b
  | .rangeFunc _ _ x y => (x, y) :: (rangeCodes x ++ rangeCodes y)
  | _ => []

def rfAt (P : Program) (f : FuncId) (i : Nat) : Code × Code :=
  match P.funcs[f]? with
  | some fn => match fn.body with
    | some c => (rangeCodes c).getD i (.skip, .skip)
    | none => (.skip, .skip)
  | none => (.skip, .skip)
def rfA (P : Program) (f : FuncId) (i : Nat) : Code := (rfAt P f i).1
def rfB (P : Program) (f : FuncId) (i : Nat) : Code := (rfAt P f i).2

def plansFn (P : Program) (f : FuncId) : List (Nat × List (Nat × List Nat)) :=
  match P.funcs[f]? with
  | some fn => match fn.body with
    | some c => plansOf P fn.ntmps c
    | none => []
  | none => []

end Go.Proofs.Ytooaiddfokbffaa.E

/- Code over abstract states, run: what a run comes to is shown of it. Conditions: none. -/
set_option linter.unusedVariables false
set_option linter.unusedSimpArgs false
namespace Go.Proofs.Ytooaiddfokbffaa.E
open Go

/-! ### Alike -/
def bytesEq (a b : ByteArray) : Bool := a.data.toList == b.data.toList

theorem bytesEq_spec {a b : ByteArray} (h : bytesEq a b = true) : a = b := by
  unfold bytesEq at h
  have := eq_of_beq h
  cases a; cases b
  simp only at this
  rw [Array.toList_inj] at this
  rw [this]

def valEq : Value → Value → Bool
  | .bool a, .bool b => a == b
  | .int k a, .int k' b => decide (k = k') && decide (a = b)
  | .string a, .string b => bytesEq a b
  | .pointer none, .pointer none => true
  | .slice none l c, .slice none l' c' => decide (l = l') && decide (c = c')
  | .map none, .map none => true
  | .nilFunc, .nilFunc => true
  | .nilIface, .nilIface => true
  | _, _ => false

theorem valEq_spec {x y : Value} (h : valEq x y = true) : x = y := by
  unfold valEq at h
  split at h
  · rw [eq_of_beq h]
  · simp only [Bool.and_eq_true, decide_eq_true_eq] at h; rw [h.1, h.2]
  · rw [bytesEq_spec h]
  · rfl
  · simp only [Bool.and_eq_true, decide_eq_true_eq] at h; rw [h.1, h.2]
  · rfl
  · rfl
  · rfl
  · cases h

def fnEq : Fn → Fn → Bool
  | .func a, .func b => decide (a = b)
  | _, _ => false

theorem fnEq_spec {f g : Fn} (h : fnEq f g = true) : f = g := by
  unfold fnEq at h
  split at h
  · rw [of_decide_eq_true h]
  · cases h

mutual
def avEq : AV → AV → Bool
  | .v x, .v y => valEq x y
  | .ptr b o, .ptr b' o' => decide (b = b') && decide (o = o')
  | .slc b o es len lo ex, .slc b' o' es' len' lo' ex' => decide (b = b') && decide (o = o') && decide (es = es') && decide (len = len') && decide (lo = lo') && (ex == ex')
  | .ro len lo ex cs, .ro len' lo' ex' cs' => decide (len = len') && decide (lo = lo') && (ex == ex') && avEqL cs cs'
  | .rop cs o, .rop cs' o' => decide (o = o') && avEqL cs cs'
  | .agg cs, .agg cs' => avEqL cs cs'
  | .tup cs, .tup cs' => avEqL cs cs'
  | .fn f a b, .fn f' a' b' => fnEq f f' && avEqL a a' && avEqL b b'
  | _, _ => false
def avEqL : List AV → List AV → Bool
  | [], [] => true
  | x :: xs, y :: ys => avEq x y && avEqL xs ys
  | _, _ => false
end

mutual
theorem avEq_spec : ∀ (x y : AV), avEq x y = true → x = y
  | .v x, .v y, h => by simp only [avEq] at h; rw [valEq_spec h]
  | .ptr b o, .ptr b' o', h => by simp only [avEq, Bool.and_eq_true, decide_eq_true_eq] at h; rw [h.1, h.2]
  | .slc b o es len lo ex, .slc b' o' es' len' lo' ex', h => by
    simp only [avEq, Bool.and_eq_true, decide_eq_true_eq, beq_iff_eq] at h
    obtain ⟨⟨⟨⟨⟨h1, h2⟩, h3⟩, h4⟩, h5⟩, h6⟩ := h
    rw [h1, h2, h3, h4, h5, h6]
  | .ro len lo ex cs, .ro len' lo' ex' cs', h => by
    simp only [avEq, Bool.and_eq_true, decide_eq_true_eq, beq_iff_eq] at h
    obtain ⟨⟨⟨h1, h2⟩, h3⟩, h4⟩ := h
    rw [h1, h2, h3, avEqL_spec cs cs' h4]
  | .rop cs o, .rop cs' o', h => by simp only [avEq, Bool.and_eq_true, decide_eq_true_eq] at h; rw [h.1, avEqL_spec cs cs' h.2]
  | .agg cs, .agg cs', h => by simp only [avEq] at h; rw [avEqL_spec cs cs' h]
  | .tup cs, .tup cs', h => by simp only [avEq] at h; rw [avEqL_spec cs cs' h]
  | .fn f a b, .fn f' a' b', h => by simp only [avEq, Bool.and_eq_true] at h; rw [fnEq_spec h.1.1, avEqL_spec a a' h.1.2, avEqL_spec b b' h.2]
  | .v _, .ptr _ _, h | .v _, .slc .., h | .v _, .ro .., h | .v _, .rop .., h | .v _, .fn .., h | .v _, .agg .., h | .v _, .tup .., h | .v _, .ifc .., h | .v _, .mp .., h | .v _, .ch .., h => by simp [avEq] at h
  | .ptr _ _, .v _, h | .ptr _ _, .slc .., h | .ptr _ _, .ro .., h | .ptr _ _, .rop .., h | .ptr _ _, .fn .., h | .ptr _ _, .agg .., h | .ptr _ _, .tup .., h | .ptr _ _, .ifc .., h | .ptr _ _, .mp .., h | .ptr _ _, .ch .., h => by simp [avEq] at h
  | .slc .., .v _, h | .slc .., .ptr .., h | .slc .., .ro .., h | .slc .., .rop .., h | .slc .., .fn .., h | .slc .., .agg .., h | .slc .., .tup .., h | .slc .., .ifc .., h | .slc .., .mp .., h | .slc .., .ch .., h => by simp [avEq] at h
  | .ro .., .v _, h | .ro .., .ptr .., h | .ro .., .slc .., h | .ro .., .rop .., h | .ro .., .fn .., h | .ro .., .agg .., h | .ro .., .tup .., h | .ro .., .ifc .., h | .ro .., .mp .., h | .ro .., .ch .., h => by simp [avEq] at h
  | .rop .., .v _, h | .rop .., .ptr .., h | .rop .., .slc .., h | .rop .., .ro .., h | .rop .., .fn .., h | .rop .., .agg .., h | .rop .., .tup .., h | .rop .., .ifc .., h | .rop .., .mp .., h | .rop .., .ch .., h => by simp [avEq] at h
  | .agg .., .v _, h | .agg .., .ptr .., h | .agg .., .slc .., h | .agg .., .ro .., h | .agg .., .fn .., h | .agg .., .rop .., h | .agg .., .tup .., h | .agg .., .ifc .., h | .agg .., .mp .., h | .agg .., .ch .., h => by simp [avEq] at h
  | .tup .., .v _, h | .tup .., .ptr .., h | .tup .., .slc .., h | .tup .., .ro .., h | .tup .., .fn .., h | .tup .., .rop .., h | .tup .., .agg .., h | .tup .., .ifc .., h | .tup .., .mp .., h | .tup .., .ch .., h => by simp [avEq] at h
  | .fn .., .v _, h | .fn .., .ptr .., h | .fn .., .slc .., h | .fn .., .ro .., h | .fn .., .rop .., h | .fn .., .agg .., h | .fn .., .tup .., h | .fn .., .ifc .., h | .fn .., .mp .., h | .fn .., .ch .., h => by simp [avEq] at h
  | .ifc .., _, h | .mp .., _, h | .ch .., _, h => by simp [avEq] at h
theorem avEqL_spec : ∀ (xs ys : List AV), avEqL xs ys = true → xs = ys
  | [], [], _ => rfl
  | x :: xs, y :: ys, h => by simp only [avEqL, Bool.and_eq_true] at h; rw [avEq_spec x y h.1, avEqL_spec xs ys h.2]
  | [], _ :: _, h | _ :: _, [], h => by simp [avEqL] at h
end

def getEq (H H' : AHeap) (b : Nat) : Bool :=
  match H.get b, H'.get b with
  | some (.cells l), some (.cells l') => avEqL l l'
  | _, _ => false

def againB (st st' : ASt) : AI → Bool
  | .op d g o => !gOk st.tm g || match okind o with
    | .same => match aop st'.tm st'.heap o with
      | some (x, _) => match d with
        | some d => avEq x (st.tm d)
        | none => true
      | none => false
    | .new => match d with
      | some d => match avBlock (st.tm d) with
        | some b => getEq st.heap st'.heap b
        | none => true
      | none => false
    | .heavy => true
  | .call .. => true

/-! ### Runs -/
section
variable (call : Nat → List AV → AHeap → Option (AV × AHeap))

def evV (i : AI) (tm : Nat → AV) (H : AHeap) : Option (AV × AHeap) :=
  match i with
  | .op _ g o => if gOk tm g = true then aop tm H o else some (uv, H)
  | .call _ g f args => if gOk tm g = true then
      match f.ev tm with
      | .fn (.func fid) fs cs => call fid (fs ++ (args.map (·.ev tm) ++ cs)) H
      | _ => none
    else some (uv, H)

def evI (i : AI) (st : ASt) : Option ASt := (evV call i st.tm st.heap).map fun r => ⟨updO st.tm i.dst r.1, r.2⟩

def evIs : List AI → ASt → Option ASt
  | [], st => some st
  | i :: r, st => match evI call i st with
    | some st' => evIs r st'
    | none => none

def chkAll (st st' : ASt) (done : List AI) : List Nat → Bool
  | [] => true
  | p :: r => (match done[p]? with | some c => againB st st' c | none => true) && chkAll st st' done r

def evD : List AI → List DItem → ASt → Option ASt
  | _, [], st => some st
  | done, it :: r, st => match evI call it.ins st with
    | some st' => if chkAll st st' done it.chk = true then evD (done ++ [it.ins]) r st' else none
    | none => none

def evLoop (body : ASt → Option (AExit × ASt)) : Nat → ASt → Option (AExit × ASt)
  | 0, _ => none
  | n + 1, st => match body st with
    | some (.normal, st') => evLoop body n st'
    | r => r

def evC (lf : Nat) : ACode → ASt → Option (AExit × ASt)
  | .skip, st => some (.normal, st)
  | .ret, st => some (.ret, st)
  | .ops l, st => (evIs call l st).map fun s => (.normal, s)
  | .draw l, st => (evD call [] l st).map fun s => (.normal, s)
  | .seq a b, st => match evC lf a st with
    | some (.normal, st') => evC lf b st'
    | r => r
  | .cond c x y, st => match c.ev st.tm with
    | .v (.bool true) => evC lf x st
    | .v (.bool false) => evC lf y st
    | _ => none
  | .block id b, st => match evC lf b st with
    | some (.exit id', st') => if id' = id then some (.normal, st') else some (.exit id', st')
    | r => r
  | .loop b, st => evLoop (evC lf b) lf st
  | .exit id, st => some (.exit id, st)
  | .rangeF .., _ => none

end

def evF (T : Nat → Option AFn) (lf : Nat) : Nat → Nat → List AV → AHeap → Option (AV × AHeap)
  | 0, _, _, _ => none
  | n + 1, f, args, H => match T f with
    | some F => match evC (evF T lf n) lf F.code ⟨argTm args, H⟩ with
      | some (.exit _, _) => none
      | some (_, st) => (resAll st F.res).map fun vs => (packR vs, st.heap)
      | none => none
    | none => none

section
variable {P : Program} {call : Nat → List AV → AHeap → Option (AV × AHeap)}

def CallOk (P : Program) (call : Nat → List AV → AHeap → Option (AV × AHeap)) : Prop :=
  ∀ f args H x H', call f args H = some (x, H') → SCall P f args H fun y H'' => y = x ∧ H'' = H'

theorem stepV_mono {i : AI} {tm : Nat → AV} {H : AHeap} {R R' : AV → AHeap → Prop} (h : stepV P i tm H R) (hr : ∀ x H', R x H' → R' x H') : stepV P i tm H R' := by
  cases i with
  | op d g o =>
    simp only [stepV] at h ⊢
    split
    · rename_i hg; rw [if_pos hg] at h; obtain ⟨x, H', h1, h2⟩ := h; exact ⟨x, H', h1, hr _ _ h2⟩
    · rename_i hg; rw [if_neg hg] at h; exact hr _ _ h
  | call d g f args =>
    simp only [stepV] at h ⊢
    split
    · rename_i hg; rw [if_pos hg] at h; rcases h with ⟨fid, fs, cs, h1, h2⟩ | h2; exact .inl ⟨fid, fs, cs, h1, h2.mono hr⟩; exact .inr (h2.mono hr)
    · rename_i hg; rw [if_neg hg] at h; exact hr _ _ h

theorem stepI_mono {i : AI} {st : ASt} {K K' : ASt → Prop} (h : stepI P i st K) (hk : ∀ st, K st → K' st) : stepI P i st K' := stepV_mono h fun _ _ h => hk _ h

theorem swpI_mono : ∀ (l : List AI) {st : ASt} {K K' : ASt → Prop}, swpI P l K st → (∀ st, K st → K' st) → swpI P l K' st
  | [], _, _, _, h, hk => hk _ h
  | i :: r, _, _, _, h, hk => stepI_mono (i := i) h fun _ h => swpI_mono r h hk

theorem swpD_mono : ∀ (l : List DItem) (dn : List AI) {st : ASt} {K K' : ASt → Prop}, swpD P dn l K st → (∀ st, K st → K' st) → swpD P dn l K' st
  | [], _, _, _, _, h, hk => hk _ h
  | i :: r, dn, _, _, _, h, hk => stepI_mono (i := i.ins) h fun _ h => ⟨h.1, swpD_mono r _ h.2 hk⟩

theorem swp_mono : ∀ (c : ACode) {st : ASt} {Q Q' : AExit → ASt → Prop}, swp P c Q st → (∀ x st, Q x st → Q' x st) → swp P c Q' st
  | .skip, _, _, _, h, hq => hq _ _ h
  | .ret, _, _, _, h, hq => hq _ _ h
  | .exit _, _, _, _, h, hq => hq _ _ h
  | .rangeF .., _, _, _, h, _ => h.elim
  | .ops l, _, _, _, h, hq => swpI_mono l h fun _ h => hq _ _ h
  | .draw l, _, _, _, h, hq => swpD_mono l [] h fun _ h => hq _ _ h
  | .seq a b, _, _, _, h, hq => by
    refine swp_mono a (st := _) h fun x st h => ?_
    cases x with
    | normal => exact swp_mono b h hq
    | ret => exact hq _ _ h
    | exit id => exact hq _ _ h
  | .cond c x y, st, _, _, h, hq => by
    simp only [swp] at h ⊢
    split
    · rename_i t ht
      simp only [ht] at h
      split
      · rename_i hh; rw [if_pos hh] at h; exact swp_mono x h hq
      · rename_i hh; rw [if_neg hh] at h; exact swp_mono y h hq
    · rename_i hno
      split at h
      · rename_i t ht; exact absurd ht (hno t)
      · exact h
  | .block id b, _, _, _, h, hq => by
    refine swp_mono b (st := _) h fun x st h => ?_
    cases x with
    | normal => exact hq _ _ h
    | ret => exact hq _ _ h
    | exit id' =>
      simp only [inBlockQ] at h ⊢
      split
      · rename_i hh; rw [if_pos hh] at h; exact hq _ _ h
      · rename_i hh; rw [if_neg hh] at h; exact hq _ _ h
  | .loop b, st0, Q, Q', h, hq => by
    obtain ⟨n, hn⟩ := h
    refine ⟨n, ?_⟩
    induction n generalizing st0 with
    | zero => exact hn
    | succ n ih =>
      refine swp_mono b hn fun x st h => ?_
      cases x with
      | normal => exact ih st h
      | ret => exact hq _ _ h
      | exit id => exact hq _ _ h

end
end Go.Proofs.Ytooaiddfokbffaa.E
