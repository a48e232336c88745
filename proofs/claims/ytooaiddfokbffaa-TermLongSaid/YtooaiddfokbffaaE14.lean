/- Code over abstract states: what is to be shown of it, calls, loops. Conditions: none. -/
import Derived.Test.YtooaiddfokbffaaE13
import Derived.LoopN
set_option linter.unusedVariables false
set_option linter.unusedSimpArgs false
namespace Go.Proofs.Ytooaiddfokbffaa.E
open Go

inductive AI where
  | op (d : Option Nat) (g : Option (Nat × Bool)) (o : AOp)
  | call (d : Option Nat) (g : Option (Nat × Bool)) (f : AArg) (args : List AArg)

/-- A step of a region that draws its order: which operation, what it does, and which earlier steps are to be looked at again behind it. -/
structure DItem where
  ins : AI
  chk : List Nat

inductive ACode where
  | skip
  | ret
  | ops (l : List AI)
  | draw (l : List DItem)
  | seq (a b : ACode)
  | cond (c : AArg) (x y : ACode)
  | block (id : Nat) (b : ACode)
  | loop (b : ACode)
  | exit (id : Nat)

inductive AExit where
  | normal | ret
  | exit (id : Nat)

structure ASt where
  tm : Nat → AV
  heap : AHeap

def upd (tm : Nat → AV) (d : Nat) (x : AV) : Nat → AV := fun n => if n = d then x else tm n
def updO (tm : Nat → AV) : Option Nat → AV → Nat → AV
  | some d, x => upd tm d x
  | none, _ => tm

def abool : AV → Option Bool
  | .v (.bool b) => some b
  | _ => none

def gOk (tm : Nat → AV) : Option (Nat × Bool) → Bool
  | none => true
  | some (t, want) => abool (tm t) == some want

/-! ### Calls -/
def CPost (e : Emb) (w : World) (R : AV → AHeap → Prop) : Ending → World → Prop := fun en w' =>
  ∃ u x H' e', en = .returned u ∧ R x H' ∧ HRel e' H' w' ∧ VRel e' w' x u ∧ Evo e w e' w'

/-- A call of a function at abstract values comes to what is said, in whatever world follows the heap. -/
def SCall (P : Program) (f : FuncId) (args : List AV) (H : AHeap) (R : AV → AHeap → Prop) : Prop :=
  (∃ fn, P.funcs[f]? = some fn ∧ (fn.name == "runtime.NumGoroutine") = false ∧ fn.body.isNone = false) ∧
  ∀ (e : Emb) (w : World) (us : List Value), HRel e H w → LRel e w args us → Calls P f us.toArray w (CPost e w R)

theorem SCall.mono {P : Program} {f : FuncId} {args : List AV} {H : AHeap} {R R' : AV → AHeap → Prop} (h : SCall P f args H R) (hr : ∀ x H', R x H' → R' x H') : SCall P f args H R' :=
  ⟨h.1, fun e w us h1 h2 => (h.2 e w us h1 h2).mono fun en w' ⟨u, x, H', e', a, b, c⟩ => ⟨u, x, H', e', a, hr _ _ b, c⟩⟩

def AI.dst : AI → Option Nat
  | .op d _ _ => d
  | .call d _ _ _ => d

/-- One step: its value, and the heap behind it. -/
def stepV (P : Program) (i : AI) (tm : Nat → AV) (H : AHeap) (R : AV → AHeap → Prop) : Prop :=
  match i with
  | .op _ g o => if gOk tm g = true then ∃ x H', aop tm H o = some (x, H') ∧ R x H' else R uv H
  | .call _ g f args => if gOk tm g = true then ∃ fid fs cs, f.ev tm = .fn (.func fid) fs cs ∧ SCall P fid (fs ++ (args.map (·.ev tm) ++ cs)) H R else R uv H

def stepI (P : Program) (i : AI) (st : ASt) (K : ASt → Prop) : Prop := stepV P i st.tm st.heap fun x H' => K ⟨updO st.tm i.dst x, H'⟩

def swpI (P : Program) : List AI → (ASt → Prop) → ASt → Prop
  | [], Q, st => Q st
  | i :: r, Q, st => stepI P i st (swpI P r Q)

/-- Where a value lies. -/
def avBlock : AV → Option Nat
  | .ptr b _ => some b
  | .slc b _ _ _ _ _ => some b
  | _ => none

inductive OKind where
  | same | new | heavy
  deriving DecidableEq

def okind : AOp → OKind
  | .store .. | .append .. => .heavy
  | .alloc _ | .box _ | .buildS .. => .new
  | .mks .. => .heavy
  | _ => .same

/-- An earlier step would do the same again. -/
def again (st st' : ASt) : AI → Prop
  | .op d g o => gOk st.tm g = true → match okind o with
    | .same => match d with
      | some d => aop st'.tm st'.heap o = some (st.tm d, st'.heap)
      | none => ∃ x, aop st'.tm st'.heap o = some (x, st'.heap)
    | .new => match d with
      | some d => ∀ b, avBlock (st.tm d) = some b → st'.heap.get b = st.heap.get b
      | none => False
    | .heavy => True
  | .call .. => True

def swpD (P : Program) : List AI → List DItem → (ASt → Prop) → ASt → Prop
  | _, [], Q, st => Q st
  | done, it :: r, Q, st => stepI P it.ins st fun st' => (∀ p ∈ it.chk, ∀ c, done[p]? = some c → again st st' c) ∧ swpD P (done ++ [it.ins]) r Q st'

def thenQ (K : ASt → Prop) (Q : AExit → ASt → Prop) : AExit → ASt → Prop
  | .normal, st => K st
  | e, st => Q e st

def inBlockQ (id : Nat) (Q : AExit → ASt → Prop) : AExit → ASt → Prop
  | .exit id', st => if id' = id then Q .normal st else Q (.exit id') st
  | e, st => Q e st

def loopN (body : (AExit → ASt → Prop) → ASt → Prop) (Q : AExit → ASt → Prop) : Nat → ASt → Prop
  | 0, _ => False
  | n + 1, st => body (thenQ (loopN body Q n) Q) st

def swp (P : Program) : ACode → (AExit → ASt → Prop) → ASt → Prop
  | .skip, Q, st => Q .normal st
  | .ret, Q, st => Q .ret st
  | .ops l, Q, st => swpI P l (Q .normal) st
  | .draw l, Q, st => swpD P [] l (Q .normal) st
  | .seq a b, Q, st => swp P a (thenQ (swp P b Q) Q) st
  | .cond c x y, Q, st => match c.ev st.tm with
    | .v (.bool t) => if t = true then swp P x Q st else swp P y Q st
    | _ => False
  | .block id b, Q, st => swp P b (inBlockQ id Q) st
  | .loop b, Q, st => ∃ n, loopN (swp P b) Q n st
  | .exit id, Q, st => Q (.exit id) st

/-! ### What of the model's code it stands for -/
def compG (ops : Array Oper) : Option (Nat × Bool) → Option (Option (Nat × Bool))
  | none => some none
  | some (j, want) => match (ops[j]?).bind (·.dst) with
    | some t => some (some (t, want))
    | none => none

def dstOk (N : Nat) : Option Nat → Bool
  | none => true
  | some d => d < N

def compI (P : Program) (N : Nat) (ops : Array Oper) (o : Oper) : Option AI :=
  if dstOk N o.dst then
    match compG ops o.guard with
    | none => none
    | some g => match o.op with
      | .call { callee := .value f, args := args, .. } => match carg f, compArgs args.toList with
        | some f', some as => some (.call o.dst g f' as)
        | _, _ => none
      | op => (compOp P op).map fun ao => .op o.dst g ao
  else none

def compIs (P : Program) (N : Nat) (ops : Array Oper) : List Oper → Option (List AI)
  | [] => some []
  | o :: r => match compI P N ops o, compIs P N ops r with
    | some i, some is => some (i :: is)
    | _, _ => none

/-! ### Soundness of a step -/
structure StRel (N : Nat) (e : Emb) (st : ASt) (a : Act) (w : World) : Prop where
  heap : HRel e st.heap w
  tm : TRel e w st.tm a
  size : N ≤ a.tmps.size
  defers : a.defers = []

section
variable {P : Program} {e : Emb} {w : World} {N : Nat}

theorem put_tm {tm : Nat → AV} {a : Act} (hT : TRel e w tm a) (hN : N ≤ a.tmps.size) {d : Option Nat} (hd : dstOk N d = true) {x : AV} {u : Value} (hx : VRel e w x u) : TRel e w (updO tm d x) (a.put d u) := by
  cases d with
  | none => exact hT
  | some d =>
    simp only [dstOk, decide_eq_true_eq] at hd
    intro n
    simp only [updO, upd, Act.put, Array.getD_eq_getD_getElem?, Array.getElem?_setIfInBounds]
    by_cases h : n = d
    · subst h
      simp [show n < a.tmps.size by omega]
      exact hx
    · rw [if_neg h, if_neg (fun hh => h hh.symm)]
      have := hT n
      simpa [Array.getD_eq_getD_getElem?] using this

theorem put_size (a : Act) (d : Option Nat) (u : Value) : (a.put d u).tmps.size = a.tmps.size := by cases d <;> simp [Act.put]
theorem put_defers (a : Act) (d : Option Nat) (u : Value) : (a.put d u).defers = a.defers := by cases d <;> rfl

theorem StRel.put {st : ASt} {a : Act} (h : StRel N e st a w) {d : Option Nat} (hd : dstOk N d = true) {x : AV} {u : Value} {H' : AHeap} {e' : Emb} {w' : World} (hH : HRel e' H' w') (hx : VRel e' w' x u) (hv : Evo e w e' w') :
    StRel N e' ⟨updO st.tm d x, H'⟩ (a.put d u) w' :=
  ⟨hH, put_tm (h.tm.evo hv) h.size hd hx, by rw [put_size]; exact h.size, by rw [put_defers]; exact h.defers⟩

def vbool : Value → Option Bool
  | .bool b => some b
  | _ => none

theorem abool_rel {x : AV} {u : Value} (h : VRel e w x u) : abool x = vbool u := by
  cases h with
  | v _ hx => cases u <;> rfl
  | _ => rfl

theorem wanted_iff {tm : Nat → AV} {a : Act} (hT : TRel e w tm a) (hN : N ≤ a.tmps.size) {ops : Array Oper} {o : Oper} {g : Option (Nat × Bool)} (hg : compG ops o.guard = some g) : Region.wanted o (yielded ops a.tmps) = gOk tm g := by
  unfold Region.wanted
  cases hgo : o.guard with
  | none => rw [hgo] at hg; simp only [compG, Option.some.injEq] at hg; subst hg; rfl
  | some q =>
    obtain ⟨j, want⟩ := q
    rw [hgo] at hg
    simp only [compG] at hg
    split at hg
    · rename_i t ht
      injection hg with hg
      subst hg
      simp only [gOk, yielded, ht, Option.bind_some]
      have hv : VRel e w (tm t) (a.tmps.getD t undef) := hT t
      have := abool_rel hv
      rw [Array.getD_eq_getD_getElem?] at this
      rw [this]
      cases hq : a.tmps[t]? with
      | none => simp [undef, vbool]
      | some u => cases u <;> simp [vbool]
    · cases hg

theorem runs_enter {fid : FuncId} {fn : Func} (h1 : P.funcs[fid]? = some fn) (h2 : (fn.name == "runtime.NumGoroutine") = false) (h3 : fn.body.isNone = false) (args : Array Value) : (callFunc fid args).run P w = .ok (.enter fid args) w := by
  have n1 : ¬ fn.name = "runtime.NumGoroutine" := by simpa using h2
  have n2 : ¬ fn.body = none := by intro hb; rw [hb] at h3; cases h3
  simp [callFunc, h1, n1, n2]

theorem compI_dst {ops : Array Oper} {o : Oper} {i : AI} (hc : compI P N ops o = some i) : i.dst = o.dst ∧ dstOk N o.dst = true := by
  unfold compI at hc
  split at hc
  case isFalse => cases hc
  rename_i hd
  split at hc
  · cases hc
  rename_i g hg
  split at hc
  · split at hc
    case h_2 => cases hc
    injection hc with hc
    subst hc
    exact ⟨rfl, hd⟩
  · simp only [Option.map_eq_some_iff] at hc
    obtain ⟨ao, hao, rfl⟩ := hc
    exact ⟨rfl, hd⟩

/-- One step of a region. -/
theorem stepV_sound {ops : Array Oper} {o : Oper} {i : AI} (hc : compI P N ops o = some i) {tm : Nat → AV} {H : AHeap} {a : Act} (hH : HRel e H w) (hT : TRel e w tm a) (hN : N ≤ a.tmps.size) {R : AV → AHeap → Prop} (h : stepV P i tm H R)
    {next : Act → World → Prop} {Q : Exit → Act → World → Prop} (hK : ∀ x H' u w' e', R x H' → HRel e' H' w' → VRel e' w' x u → Evo e w e' w' → next (a.put o.dst u) w') :
    if Region.wanted o (yielded ops a.tmps) = true then o.wp P a w next Q ∨ (o.asks P a w ∧ LetsOut Q) else next (a.put o.dst undef) w := by
  unfold compI at hc
  split at hc
  case isFalse => cases hc
  rename_i hd
  split at hc
  · cases hc
  rename_i g hg
  have hw := wanted_iff hT hN hg
  rw [hw]
  have skip : R uv H → next (a.put o.dst undef) w := fun hk => hK _ _ _ _ _ hk hH VRel.uv (Evo.refl e w)
  split at hc
  · rename_i f args tys hop
    split at hc
    case h_2 => cases hc
    rename_i f' as hf has
    injection hc with hc
    subst hc
    simp only [stepV] at h
    split
    · rename_i hgo
      rw [if_pos hgo] at h
      obtain ⟨fid, fs, cs, hfv, ⟨fn, q1, q2, q3⟩, hcall⟩ := h
      refine .inl ?_
      have hvf := carg_rel hT hf
      rw [hfv] at hvf
      generalize huf : a.eval f = uf at *
      cases hvf with
      | fn _ _ _ ufs ucs hn1 hn2 hr1 hr2 =>
      have LF : LRel e w fs ufs.toList := ⟨by simpa using hn1, fun i x u r1 r2 => hr1 i x u r1 (by simpa using r2)⟩
      have LC : LRel e w cs ucs.toList := ⟨by simpa using hn2, fun i x u r1 r2 => hr2 i x u r1 (by simpa using r2)⟩
      have LA := compArgs_rel hT has
      have hargs : (ufs.toList ++ (args.toList.map a.eval ++ ucs.toList)).toArray = ufs ++ args.map a.eval ++ ucs := by
        apply Array.ext'
        simp
      have hC := hcall e w _ hH (LF.append (LA.append LC))
      rw [hargs] at hC
      have hrun : (execOp a.eval o).run P w = .ok (.enter fid (ufs ++ args.map a.eval ++ ucs)) w := by
        simp only [execOp, hop, resolve, huf, Deferred.ofValue, Sem.run_bind, Sem.run_pure, Result.andThen_ok, invoke]
        exact runs_enter q1 q2 q3 _
      unfold Oper.wp
      rw [hrun]
      refine Calls.mono hC fun en w' hp => ?_
      obtain ⟨u, x, H', e', rfl, h1, h2, h3, h4⟩ := hp
      exact hK _ _ _ _ _ h1 h2 h3 h4
    · rename_i hgo
      rw [if_neg hgo] at h
      exact skip h
  · simp only [Option.map_eq_some_iff] at hc
    obtain ⟨ao, hao, rfl⟩ := hc
    simp only [stepV] at h
    split
    · rename_i hgo
      rw [if_pos hgo] at h
      obtain ⟨x, H', h1, h2⟩ := h
      obtain ⟨u, w', e', hr, h3, h4, h5⟩ := aop_sound hH hT o hao h1
      refine .inl ?_
      unfold Oper.wp
      rcases hr with hr | ⟨hr, rfl⟩
      · rw [hr]
        exact hK _ _ _ _ _ h2 h3 h4 h5
      · rw [hr]
        exact hK _ _ _ _ _ h2 h3 h4 h5
    · rename_i hgo
      rw [if_neg hgo] at h
      exact skip h

theorem step_sound {ops : Array Oper} {o : Oper} {i : AI} (hc : compI P N ops o = some i) {st : ASt} {a : Act} (hS : StRel N e st a w) {K : ASt → Prop} (h : stepI P i st K)
    {next : Act → World → Prop} {Q : Exit → Act → World → Prop} (hK : ∀ st' a' w' e', K st' → StRel N e' st' a' w' → Evo e w e' w' → next a' w') :
    if Region.wanted o (yielded ops a.tmps) = true then o.wp P a w next Q ∨ (o.asks P a w ∧ LetsOut Q) else next (a.put o.dst undef) w := by
  obtain ⟨hd1, hd2⟩ := compI_dst hc
  refine stepV_sound hc hS.heap hS.tm hS.size h fun x H' u w' e' hk hH hx hv => hK _ _ _ _ hk ?_ hv
  rw [hd1]
  exact hS.put hd2 hH hx hv

theorem list_sound {ops : Array Oper} : ∀ (l : List Oper) (is : List AI), compIs P N ops l = some is → ∀ (e : Emb) (w : World) (st : ASt) (a : Act), StRel N e st a w → ∀ (K : ASt → Prop), swpI P is K st →
    ∀ (Q : Exit → Act → World → Prop), (∀ st' a' w' e', K st' → StRel N e' st' a' w' → Evo e w e' w' → Q .normal a' w') → wpList P ops Q l a w := by
  intro l
  induction l with
  | nil =>
    intro is hc e w st a hS K h Q hQ
    simp only [compIs, Option.some.injEq] at hc
    subst hc
    exact hQ _ _ _ _ h hS (Evo.refl e w)
  | cons o l ih =>
    intro is hc e w st a hS K h Q hQ
    simp only [compIs] at hc
    split at hc
    · rename_i i is' h1 h2
      injection hc with hc
      subst hc
      simp only [swpI] at h
      simp only [wpList]
      exact step_sound h1 hS h fun st' a' w' e' hk hs' hv => ih is' h2 e' w' st' a' hs' K hk Q fun st2 a2 w2 e2 hk2 hs2 hv2 => hQ _ _ _ _ hk2 hs2 (hv.trans hv2)
    · cases hc

end
end Go.Proofs.Ytooaiddfokbffaa.E
