/- The model's operation follows the abstract one: every operation that is taken. Conditions: none. -/
import Derived.Test.YtooaiddfokbffaaE12
set_option linter.unusedVariables false
set_option linter.unusedSimpArgs false
namespace Go.Proofs.Ytooaiddfokbffaa.E
open Go

section
variable {e : Emb} {w : World} {H : AHeap} {P : Program} {tm : Nat → AV} {a : Act}

set_option maxHeartbeats 1000000 in
theorem aop_sound (hH : HRel e H w) (hT : TRel e w tm a) (o : Oper) {ao : AOp} (hc : compOp P o.op = some ao) {r : AV} {H' : AHeap} (h : aop tm H ao = some (r, H')) : OpGoes P a.eval o e w r H' := by
  have stay : ∀ {u : Value} {x : AV}, (execOp a.eval o).run P w = .ok (.value u) w → VRel e w x u → OpGoes P a.eval o e w x H := fun hr hx => ⟨_, w, e, .inl hr, hH, hx, Evo.refl e w⟩
  cases ho : o.op with
  | move x =>
    rw [ho] at hc
    simp only [compOp, Option.map_eq_some_iff] at hc
    obtain ⟨y, hy, rfl⟩ := hc
    simp only [aop, Option.some.injEq, Prod.mk.injEq] at h
    obtain ⟨rfl, rfl⟩ := h
    exact stay (by simp [execOp, ho]) (carg_rel hT hy)
  | assign x =>
    rw [ho] at hc
    simp only [compOp, Option.map_eq_some_iff] at hc
    obtain ⟨y, hy, rfl⟩ := hc
    simp only [aop, Option.some.injEq, Prod.mk.injEq] at h
    obtain ⟨rfl, rfl⟩ := h
    exact stay (by simp [execOp, ho]) (carg_rel hT hy)
  | pick c x y =>
    rw [ho] at hc
    simp only [compOp] at hc
    split at hc
    · rename_i c' x' y' h1 h2 h3
      injection hc with hc
      subst hc
      simp only [aop] at h
      split at h
      · rename_i t e1
        simp only [Option.some.injEq, Prod.mk.injEq] at h
        obtain ⟨rfl, rfl⟩ := h
        have hv := carg_rel hT h1
        rw [e1] at hv
        generalize hu : a.eval c = u at *
        cases hv
        refine stay (by simp [execOp, ho, hu, asBool]; rfl) ?_
        cases t
        · simpa using carg_rel hT h3
        · simpa using carg_rel hT h2
      · cases h
    · cases hc
  | alloc t =>
    rw [ho] at hc
    simp only [compOp, Option.map_eq_some_iff] at hc
    obtain ⟨z, hz, rfl⟩ := hc
    simp only [aop, Option.some.injEq, Prod.mk.injEq] at h
    obtain ⟨rfl, rfl⟩ := h
    exact .of (go_alloc hH hz) fun u w' hr => by simp [execOp, ho, hr]
  | box t x =>
    rw [ho] at hc
    simp only [compOp, Option.map_eq_some_iff] at hc
    obtain ⟨y, hy, rfl⟩ := hc
    simp only [aop, Option.some.injEq, Prod.mk.injEq] at h
    obtain ⟨rfl, rfl⟩ := h
    exact .of (go_box hH t (carg_rel hT hy)) fun u w' hr => by simp [execOp, ho, hr]
  | build t parts =>
    rw [ho] at hc
    simp only [compOp] at hc
    split at hc
    · rename_i fs z ht hz
      split at hc
      · rename_i hall
        simp only [Option.map_eq_some_iff] at hc
        obtain ⟨ps, hps, rfl⟩ := hc
        simp only [aop, Option.map_eq_some_iff, Prod.mk.injEq] at h
        obtain ⟨cs, h1, rfl, rfl⟩ := h
        exact .of (go_build hH hT hz hps (.inl ⟨fs, ht, hall, rfl⟩) h1) fun u w' hr => by simp [execOp, ho, hr]
      · cases hc
    · rename_i n el z ht hz
      split at hc
      · rename_i m hm
        simp only [Option.map_eq_some_iff] at hc
        obtain ⟨ps, hps, rfl⟩ := hc
        simp only [aop, Option.map_eq_some_iff, Prod.mk.injEq] at h
        obtain ⟨cs, h1, rfl, rfl⟩ := h
        exact .of (go_build hH hT hz hps (.inr ⟨n, el, m, ht, hm, rfl⟩) h1) fun u w' hr => by simp [execOp, ho, hr]
      · cases hc
    · cases hc
  | buildSlice t n parts =>
    rw [ho] at hc
    simp only [compOp] at hc
    split at hc
    · rename_i el ht
      split at hc
      · rename_i es z hs hz
        split at hc
        · rename_i hcond
          simp only [Option.map_eq_some_iff] at hc
          obtain ⟨ps, hps, rfl⟩ := hc
          simp only [aop, Option.map_eq_some_iff, Prod.mk.injEq] at h
          obtain ⟨cs, h1, rfl, rfl⟩ := h
          exact .of (go_buildS hH hT ht hz hs hcond.2.1 hcond.2.2 hcond.1 hps h1) fun u w' hr => by simp [execOp, ho, hr]
        · cases hc
      · cases hc
    · cases hc
  | load t x =>
    rw [ho] at hc
    simp only [compOp] at hc
    split at hc
    · rename_i d n ht hs
      simp only [Option.map_eq_some_iff] at hc
      obtain ⟨y, hy, rfl⟩ := hc
      simp only [aop, Option.map_eq_some_iff, Prod.mk.injEq] at h
      obtain ⟨z, h1, rfl, rfl⟩ := h
      exact .of (go_load hH ht hs (carg_rel hT hy) h1) fun u w' hr => by simp [execOp, ho, hr]
    · cases hc
  | store t x y =>
    rw [ho] at hc
    simp only [compOp] at hc
    split at hc
    · rename_i n x' y' hs hx hy
      injection hc with hc
      subst hc
      simp only [aop, Option.map_eq_some_iff, Prod.mk.injEq] at h
      obtain ⟨H1, h1, rfl, rfl⟩ := h
      obtain ⟨w', h2, h3, h4⟩ := astore_rel (P := P) hH hs (carg_rel hT hx) (carg_rel hT hy) h1
      exact ⟨undef, w', e, .inr ⟨by simp [execOp, ho, h2], rfl⟩, h3, VRel.uv, h4⟩
    · cases hc
  | nilCheck x =>
    rw [ho] at hc
    simp only [compOp, Option.map_eq_some_iff] at hc
    obtain ⟨y, hy, rfl⟩ := hc
    have hv := carg_rel hT hy
    simp only [aop] at h
    generalize hu : a.eval x = u at *
    split at h <;> simp only [Option.some.injEq, Prod.mk.injEq, reduceCtorEq] at h
    all_goals (obtain ⟨rfl, rfl⟩ := h; rename_i e1; rw [e1] at hv; have hv' := hv; cases hv'; exact stay (by simp [execOp, ho, hu]) hv)
  | binOp op t x y t' =>
    rw [ho] at hc
    simp only [compOp] at hc
    have hg := sound_bin (P := P) hH hT hc h
    exact .of hg fun u w' hr => by
      simp only [execOp, ho, Sem.run_bind] at hr ⊢
      rw [hr]
      rfl
  | unOp op t x =>
    rw [ho] at hc
    cases op <;> simp only [compOp, Option.map_eq_some_iff, reduceCtorEq] at hc
    · obtain ⟨y, hy, rfl⟩ := hc
      have hv := carg_rel hT hy
      simp only [aop] at h
      split at h
      · rename_i k n e1
        simp only [Option.some.injEq, Prod.mk.injEq] at h
        obtain ⟨rfl, rfl⟩ := h
        rw [e1] at hv
        generalize hu : a.eval x = u at *
        cases hv
        exact stay (by simp [execOp, ho, hu, Op.unary, Op.intArith]) (.v _ rfl)
      · cases h
    · obtain ⟨y, hy, rfl⟩ := hc
      have hv := carg_rel hT hy
      simp only [aop] at h
      split at h
      · rename_i b e1
        simp only [Option.some.injEq, Prod.mk.injEq] at h
        obtain ⟨rfl, rfl⟩ := h
        rw [e1] at hv
        generalize hu : a.eval x = u at *
        cases hv
        exact stay (by simp [execOp, ho, hu, Op.unary]) (.v _ rfl)
      · cases h
  | convert s d x =>
    rw [ho] at hc
    simp only [compOp] at hc
    split at hc
    · rename_i sd k hs hd
      simp only [Option.map_eq_some_iff] at hc
      obtain ⟨y, hy, rfl⟩ := hc
      have hv := carg_rel hT hy
      simp only [aop] at h
      split at h
      · rename_i k' n e1
        simp only [Option.some.injEq, Prod.mk.injEq] at h
        obtain ⟨rfl, rfl⟩ := h
        rw [e1] at hv
        generalize hu : a.eval x = u at *
        cases hv
        exact stay (by simp [execOp, ho, hu, convert, run_underlying hs, run_underlying hd, Conv.intToInt]) (.v _ rfl)
      · cases h
    · cases hc
  | makeFunc f first captured =>
    rw [ho] at hc
    simp only [compOp] at hc
    split at hc
    · rename_i l1 l2 h1 h2
      injection hc with hc
      subst hc
      simp only [aop, Option.some.injEq, Prod.mk.injEq] at h
      obtain ⟨rfl, rfl⟩ := h
      have L1 := compArgs_rel hT h1
      have L2 := compArgs_rel hT h2
      refine stay (u := .func f (first.map a.eval) (captured.map a.eval)) (by simp [execOp, ho, Instr.makeFunc]) ?_
      refine .fn _ _ _ _ _ (by have := L1.1; simpa using this) (by have := L2.1; simpa using this) (fun i x u q1 q2 => L1.2 i x u q1 ?_) (fun i x u q1 q2 => L2.2 i x u q1 ?_)
      · simpa using q2
      · simpa using q2
    · cases hc
  | makeSlice t l c =>
    rw [ho] at hc
    simp only [compOp] at hc
    split at hc
    · rename_i el ht
      split at hc
      · rename_i i z hi hz
        split at hc
        · rename_i hs
          split at hc
          · rename_i l' c' hl hcc
            injection hc with hc
            subst hc
            simp only [aop] at h
            exact .of (go_mks (es := i.size) hH ht hz hi hs (carg_rel hT hl) (carg_rel hT hcc) h) fun u w' hr => by simp [execOp, ho, hr]
          · cases hc
        · cases hc
      · cases hc
    · cases hc
  | slice t x lo hi mx =>
    rw [ho] at hc
    simp only [compOp] at hc
    split at hc
    · rename_i el x' l' h' m' ht hx hlo hhi hmx
      simp only [Option.map_eq_some_iff] at hc
      obtain ⟨es, hs, rfl⟩ := hc
      simp only [aop] at h
      have conv : ∀ {q : Option Operand} {q' : Option AArg}, cargO q = some q' → (q'.map (·.ev tm) = none ∧ q.map a.eval = none) ∨ ∃ y v, q'.map (·.ev tm) = some y ∧ q.map a.eval = some v ∧ VRel e w y v := by
        intro q q' hq
        rcases cargO_rel hT hq with ⟨rfl, rfl⟩ | ⟨x1, y1, rfl, rfl, hv⟩
        · exact .inl ⟨rfl, rfl⟩
        · exact .inr ⟨_, _, rfl, rfl, hv⟩
      split at h
      · rename_i l2 h2 m2 e1 e2 e3
        simp only [Option.map_eq_some_iff, Prod.mk.injEq] at h
        obtain ⟨y, h1, rfl, rfl⟩ := h
        exact .of (go_slice hH ht hs (carg_rel hT hx) (anat_rel (conv hlo) e1) (anat_rel (conv hhi) e2) (anat_rel (conv hmx) e3) h1) fun u w' hr => by simp [execOp, ho, hr]
      · cases h
    · rename_i x' l' h' ht hx hlo hhi hmx
      injection hc with hc
      subst hc
      have conv : ∀ {q : Option Operand} {q' : Option AArg}, cargO q = some q' → (q'.map (·.ev tm) = none ∧ q.map a.eval = none) ∨ ∃ y v, q'.map (·.ev tm) = some y ∧ q.map a.eval = some v ∧ VRel e w y v := by
        intro q q' hq
        rcases cargO_rel hT hq with ⟨rfl, rfl⟩ | ⟨x1, y1, rfl, rfl, hv⟩
        · exact .inl ⟨rfl, rfl⟩
        · exact .inr ⟨_, _, rfl, rfl, hv⟩
      have hmx' : mx = none := by
        rcases cargO_rel hT hmx with ⟨h, _⟩ | ⟨x1, y1, _, h, _⟩
        · exact h
        · cases h
      subst hmx'
      simp only [aop] at h
      split at h
      · rename_i s l2 h2 e0 e1 e2
        split at h
        · rename_i hle
          simp only [Option.some.injEq, Prod.mk.injEq] at h
          obtain ⟨rfl, rfl⟩ := h
          have hv := carg_rel hT hx
          rw [e0] at hv
          generalize hu : a.eval x = u at *
          cases hv
          refine stay ?_ (.v _ rfl)
          have hlo' := anat_rel (conv hlo) e1
          have hhi' := anat_rel (conv hhi) e2
          have hb : (Instr.sliceBounds false s.size s.size (lo.map a.eval) (hi.map a.eval) none).run P w = .ok (l2.getD 0, h2.getD s.size, s.size) w := by
            rcases hhi' with ⟨rfl, q2⟩ | ⟨kh, nh, rfl, q2⟩ <;> rcases hlo' with ⟨rfl, q1⟩ | ⟨kl, nl, rfl, q1⟩ <;> rw [q1, q2] <;> simp only [Option.getD_none, Option.getD_some] at hle ⊢
            · simp [Instr.sliceBounds]
            · simp [Instr.sliceBounds, run_bound kl nl s.size _ hle.1]
            · simp [Instr.sliceBounds, run_bound kh nh s.size _ (by omega)]
            · simp [Instr.sliceBounds, run_bound kh nh s.size _ (by omega), run_bound kl nl nh _ hle.1]
          simp [execOp, ho, hu, Instr.sliceAt, Instr.slice, run_underlying ht, hb]
        · cases h
      · cases h
    · cases hc
  | fieldAddr t x f =>
    rw [ho] at hc
    simp only [compOp] at hc
    split at hc
    · rename_i fs ht
      split at hc
      · rename_i fd hfd
        split at hc
        · rename_i n hs
          simp only [Option.map_eq_some_iff] at hc
          obtain ⟨y, hy, rfl⟩ := hc
          simp only [aop, Option.map_eq_some_iff, Prod.mk.injEq] at h
          obtain ⟨z, h1, rfl, rfl⟩ := h
          exact .of (go_fld hH ht hfd hs (carg_rel hT hy) h1) fun u w' hr => by simp [execOp, ho, hr]
        · cases hc
      · cases hc
    · cases hc
  | field t x f =>
    rw [ho] at hc
    simp only [compOp] at hc
    split at hc
    · rename_i fs ht
      split at hc
      · rename_i fd hfd
        split at hc
        · rename_i d n hd hs
          simp only [Option.map_eq_some_iff] at hc
          obtain ⟨y, hy, rfl⟩ := hc
          simp only [aop] at h
          split at h
          · rename_i cs e1
            split at h
            · rename_i hle
              simp only [Option.map_eq_some_iff, Prod.mk.injEq] at h
              obtain ⟨z, h1, rfl, rfl⟩ := h
              have hv := carg_rel hT hy
              rw [e1] at hv
              generalize hu : a.eval x = u at *
              cases hv with
              | agg _ us hn hr =>
              have L : LRel e w cs us.toList := ⟨by simpa using hn, fun i x u q1 q2 => hr i x u q1 (by simpa using q2)⟩
              exact .of (go_part hH hd hs L hle h1) fun u w' hr => by simp [execOp, ho, hu, Instr.field, run_underlying ht, hfd, asAgg, hr]
            · cases h
          · cases h
        · cases hc
      · cases hc
    · cases hc
  | indexAddr t x i =>
    rw [ho] at hc
    simp only [compOp] at hc
    split at hc
    · rename_i el x' i' ht hx hi
      simp only [Option.map_eq_some_iff] at hc
      obtain ⟨es, hs, rfl⟩ := hc
      simp only [aop] at h
      have hvi := carg_rel hT hi
      split at h
      · rename_i k n e2
        rw [e2] at hvi
        generalize hu : a.eval i = u at *
        cases hvi
        simp only [Option.map_eq_some_iff, Prod.mk.injEq] at h
        obtain ⟨z, h1, rfl, rfl⟩ := h
        exact .of (go_idx (kd := k) hH ht hs (carg_rel hT hx) h1) fun u w' hr => by simp [execOp, ho, hu, hr]
      · cases h
    · rename_i len el x' i' ht hx hi
      simp only [Option.map_eq_some_iff] at hc
      obtain ⟨es, hs, rfl⟩ := hc
      simp only [aop] at h
      have hvi := carg_rel hT hi
      split at h
      · rename_i k n e2
        rw [e2] at hvi
        generalize hu : a.eval i = u at *
        cases hvi
        simp only [Option.map_eq_some_iff, Prod.mk.injEq] at h
        obtain ⟨z, h1, rfl, rfl⟩ := h
        exact .of (go_idxA (kd := k) hH ht hs (carg_rel hT hx) h1) fun u w' hr => by simp [execOp, ho, hu, hr]
      · cases h
    · cases hc
  | index t x i =>
    rw [ho] at hc
    simp only [compOp] at hc
    split at hc
    · rename_i x' i' ht hx hi
      injection hc with hc
      subst hc
      simp only [aop] at h
      have hvi := carg_rel hT hi
      have hvx := carg_rel hT hx
      split at h
      · rename_i s k n e1 e2
        rw [e1] at hvx
        rw [e2] at hvi
        generalize hu : a.eval i = u at *
        generalize hux : a.eval x = ux at *
        cases hvi
        cases hvx
        split at h
        · rename_i h0
          simp only [Option.map_eq_some_iff, Prod.mk.injEq] at h
          obtain ⟨b, h1, rfl, rfl⟩ := h
          have hlt : n.toNat < s.size := (List.getElem?_eq_some_iff.1 h1).1
          have hb : s[n.toNat]? = some b := by
            rw [getElem?_pos s n.toNat hlt]
            have := (List.getElem?_eq_some_iff.1 h1).2
            exact congrArg some this
          exact stay (by simp [execOp, ho, hu, hux, Instr.index, asIntOf, run_underlying ht, h0, hb]) (.v _ rfl)
        · cases h
      · cases h
    · rename_i len el x' i' ht hx hi
      split at hc
      · rename_i d n hd hs
        injection hc with hc
        subst hc
        simp only [aop] at h
        have hvi := carg_rel hT hi
        have hvx := carg_rel hT hx
        split at h
        · rename_i cs k j e1 e2
          rw [e1] at hvx
          rw [e2] at hvi
          generalize hu : a.eval i = u at *
          generalize hux : a.eval x = ux at *
          cases hvi
          cases hvx with
          | agg _ us hn hr =>
          split at h
          · rename_i hle
            simp only [Option.map_eq_some_iff, Prod.mk.injEq] at h
            obtain ⟨z, h1, rfl, rfl⟩ := h
            have L : LRel e w cs us.toList := ⟨by simpa using hn, fun i x u q1 q2 => hr i x u q1 (by simpa using q2)⟩
            have hs' := hs
            simp only [tSize, Option.map_eq_some_iff] at hs'
            obtain ⟨q, hq, hqs⟩ := hs'
            exact .of (go_part hH hd hs L hle.2.2 h1) fun u w' hr => by simp [execOp, ho, hu, hux, Instr.index, asIntOf, run_underlying ht, hle.1, hle.2.1, sizeOf, typeInfo, hq, hqs, hr]
          · cases h
        · cases h
      · cases hc
    · cases hc
  | extract x i =>
    rw [ho] at hc
    simp only [compOp, Option.map_eq_some_iff] at hc
    obtain ⟨y, hy, rfl⟩ := hc
    simp only [aop] at h
    split at h
    · rename_i vs e1
      simp only [Option.map_eq_some_iff, Prod.mk.injEq] at h
      obtain ⟨z, h1, rfl, rfl⟩ := h
      have hv := carg_rel hT hy
      rw [e1] at hv
      generalize hu : a.eval x = u at *
      cases hv with
      | tup _ us hn hr =>
      have hi := (List.getElem?_eq_some_iff.1 h1).1
      have hui : us[i]? = some (us[i]'(by omega)) := Array.getElem?_eq_getElem (by omega)
      exact stay (by simp [execOp, ho, hu, Instr.extract, hui]) (hr i z _ h1 hui)
    · cases h
  | call c =>
    rw [ho] at hc
    simp only [compOp] at hc
    exact sound_call hH hT hc h o ho
  | _ => rw [ho] at hc; simp [compOp] at hc

end
end Go.Proofs.Ytooaiddfokbffaa.E
