/- A region that draws its order: one order serves all, where what floats would do the same at each of its places. Conditions: none. -/
import Derived.Test.YtooaiddfokbffaaE15
set_option linter.unusedVariables false
set_option linter.unusedSimpArgs false
namespace Go.Proofs.Ytooaiddfokbffaa.E
open Go

def AArg.tmps : AArg → List Nat
  | .t n => [n]
  | .c _ => []

def gTmps : Option (Nat × Bool) → List Nat
  | none => []
  | some (t, _) => [t]

def AI.reads : AI → List Nat
  | .op _ g o => gTmps g ++ (aReads o).flatMap AArg.tmps
  | .call _ g f args => gTmps g ++ (f.tmps ++ args.flatMap AArg.tmps)

def isFloat : AI → Bool
  | .op _ _ o => okind o != .heavy
  | .call .. => false

section
variable {tm tm' : Nat → AV} {H : AHeap} {P : Program}

theorem ev_congr {x : AArg} (h : ∀ t ∈ x.tmps, tm t = tm' t) : x.ev tm = x.ev tm' := by
  cases x with
  | t n => exact h n (by simp [AArg.tmps])
  | c x => rfl

theorem gOk_congr {g : Option (Nat × Bool)} (h : ∀ t ∈ gTmps g, tm t = tm' t) : gOk tm g = gOk tm' g := by
  cases g with
  | none => rfl
  | some q => obtain ⟨t, b⟩ := q; simp only [gOk]; rw [h t (by simp [gTmps])]

theorem op_congr {d : Option Nat} {g : Option (Nat × Bool)} {o : AOp} (h : ∀ t ∈ (AI.op d g o).reads, tm t = tm' t) : gOk tm g = gOk tm' g ∧ (∀ H, aop tm H o = aop tm' H o) ∧ anew tm o = anew tm' o := by
  simp only [AI.reads, List.mem_append, List.mem_flatMap] at h
  have h1 : ∀ x ∈ aReads o, x.ev tm = x.ev tm' := fun x hx => ev_congr fun t ht => h t (.inr ⟨x, hx, ht⟩)
  exact ⟨gOk_congr fun t ht => h t (.inl ht), fun H => aop_congr h1, anew_congr h1⟩

theorem stepV_congr {i : AI} (h : ∀ t ∈ i.reads, tm t = tm' t) {R : AV → AHeap → Prop} (hs : stepV P i tm H R) : stepV P i tm' H R := by
  cases i with
  | op d g o =>
    obtain ⟨h1, h2, _⟩ := op_congr h
    simp only [stepV] at hs ⊢
    rw [← h1, ← h2]
    exact hs
  | call d g f args =>
    simp only [AI.reads, List.mem_append, List.mem_flatMap] at h
    have h1 : gOk tm g = gOk tm' g := gOk_congr fun t ht => h t (.inl ht)
    have h2 : f.ev tm = f.ev tm' := ev_congr fun t ht => h t (.inr (.inl ht))
    have h3 : args.map (·.ev tm) = args.map (·.ev tm') := List.map_congr_left fun x hx => ev_congr fun t ht => h t (.inr (.inr ⟨x, hx, ht⟩))
    simp only [stepV] at hs ⊢
    rw [← h1, ← h2, ← h3]
    exact hs

end

/-! ### What goes ahead of what -/
def Edge (ops : Array Oper) (i k : Nat) : Prop := ∃ o, ops[i]? = some o ∧ ∃ ed ∈ o.after, Region.binds .any ed = true ∧ ed.on = k

inductive Anc (ops : Array Oper) : Nat → Nat → Prop
  | dir {i k : Nat} (h : Edge ops i k) : Anc ops i k
  | trans {i k m : Nat} (h : Edge ops i k) (h' : Anc ops k m) : Anc ops i m

def isL (listed : Array Bool) (i : Nat) : Prop := listed.getD i false = true

/-- The items of a plan, and what they are to be to each other. -/
structure PlanOk (P : Program) (N : Nat) (ops : Array Oper) (L : List (Nat × DItem)) : Prop where
  comp : ∀ (q i : Nat) (it : DItem), L[q]? = some (i, it) → ∃ o, ops[i]? = some o ∧ compI P N ops o = some it.ins
  full : ∀ i, i < ops.size → ∃ (q : Nat) (it : DItem), L[q]? = some (i, it)
  lin : ∀ (q i : Nat) (it : DItem), L[q]? = some (i, it) → ∀ k, Edge ops i k → ∃ (r : Nat) (it' : DItem), r < q ∧ L[r]? = some (k, it')
  own : ∀ (q i : Nat) (it : DItem), L[q]? = some (i, it) → isFloat it.ins = true → ∀ d, it.ins.dst = some d → d ∉ it.ins.reads
  ne : ∀ (r q ir iq : Nat) (tr tq : DItem), r < q → L[r]? = some (ir, tr) → L[q]? = some (iq, tq) → ir ≠ iq
  heavy : ∀ (r q ir iq : Nat) (tr tq : DItem), r < q → L[r]? = some (ir, tr) → L[q]? = some (iq, tq) → isFloat tr.ins = false → Anc ops iq ir
  again : ∀ (r q ir iq : Nat) (tr tq : DItem), r < q → L[r]? = some (ir, tr) → L[q]? = some (iq, tq) → isFloat tr.ins = true → isFloat tq.ins = false →
    Anc ops iq ir ∨ (r ∈ tq.chk ∧ ∀ (s js : Nat) (ts : DItem), r < s → s ≤ q → L[s]? = some (js, ts) → ∀ d, ts.ins.dst = some d → d ∉ tr.ins.reads)
  dst : ∀ (r q ir iq : Nat) (tr tq : DItem), r < q → L[r]? = some (ir, tr) → L[q]? = some (iq, tq) → ∀ d, tr.ins.dst = some d → tq.ins.dst ≠ some d
  readB : ∀ (r q ir iq : Nat) (tr tq : DItem), r < q → L[r]? = some (ir, tr) → L[q]? = some (iq, tq) → ∀ d, tr.ins.dst = some d → d ∈ tq.ins.reads → Anc ops iq ir
  readA : ∀ (r q ir iq : Nat) (tr tq : DItem), r < q → L[r]? = some (ir, tr) → L[q]? = some (iq, tq) → ∀ d, tq.ins.dst = some d → d ∈ tr.ins.reads → Anc ops iq ir

structure Rec where
  i : Nat
  it : DItem
  x : AV
  b : Nat

/-- The temporaries behind those of some steps that are told. -/
def tmF (p : Rec → Bool) (tm0 : Nat → AV) (done : List Rec) : Nat → AV := fun t =>
  match done.find? (fun r => r.it.ins.dst == some t && p r) with
  | some r => r.x
  | none => tm0 t

theorem tmF_none {p : Rec → Bool} {tm0 : Nat → AV} {done : List Rec} {t : Nat} (h : ∀ r ∈ done, r.it.ins.dst = some t → p r = false) : tmF p tm0 done t = tm0 t := by
  unfold tmF
  have : done.find? (fun r => r.it.ins.dst == some t && p r) = none := by
    rw [List.find?_eq_none]
    intro r hr
    by_cases hd : r.it.ins.dst = some t
    · simp [h r hr hd]
    · simp [hd]
  rw [this]

theorem tmF_some {p : Rec → Bool} {tm0 : Nat → AV} {done : List Rec} {t : Nat} {r : Rec} (hr : r ∈ done) (hd : r.it.ins.dst = some t) (hp : p r = true) (hu : ∀ r' ∈ done, r'.it.ins.dst = some t → r' = r) : tmF p tm0 done t = r.x := by
  unfold tmF
  cases hf : done.find? (fun r => r.it.ins.dst == some t && p r) with
  | none =>
    rw [List.find?_eq_none] at hf
    exact absurd (by simp [hd, hp]) (hf r hr)
  | some r' =>
    have h1 := List.find?_some hf
    have h2 := List.mem_of_find?_eq_some hf
    simp only [Bool.and_eq_true, beq_iff_eq] at h1
    rw [hu r' h2 h1.1]

theorem tmF_append {p : Rec → Bool} {tm0 : Nat → AV} {done : List Rec} {r : Rec} (hp : p r = true) (hn : ∀ r' ∈ done, ∀ d, r'.it.ins.dst = some d → r.it.ins.dst ≠ some d) :
    tmF p tm0 (done ++ [r]) = updO (tmF p tm0 done) r.it.ins.dst r.x := by
  funext t
  unfold tmF
  rw [List.find?_append]
  cases hd : r.it.ins.dst with
  | none => simp [hd, updO]
  | some d =>
    simp only [updO, upd]
    by_cases ht : t = d
    · subst ht
      have : done.find? (fun r => r.it.ins.dst == some t && p r) = none := by
        rw [List.find?_eq_none]
        intro r' hr'
        have h1 : ¬ r'.it.ins.dst = some t := fun h => hn r' hr' t h hd
        simp [h1]
      rw [this]
      simp [hd, hp]
    · rw [if_neg ht]
      cases done.find? (fun r => r.it.ins.dst == some t && p r) with
      | some _ => rfl
      | none => simp [hd, Ne.symm ht]

theorem tmF_skip {p : Rec → Bool} {tm0 : Nat → AV} {done : List Rec} {r : Rec} (hp : p r = false) : tmF p tm0 (done ++ [r]) = tmF p tm0 done := by
  funext t
  unfold tmF
  rw [List.find?_append]
  cases done.find? (fun r => r.it.ins.dst == some t && p r) with
  | some _ => rfl
  | none => simp [hp]

theorem tmF_congr {p p' : Rec → Bool} {tm0 : Nat → AV} {done : List Rec} (h : ∀ r ∈ done, p r = p' r) : tmF p tm0 done = tmF p' tm0 done := by
  funext t
  unfold tmF
  have : done.find? (fun r => r.it.ins.dst == some t && p r) = done.find? (fun r => r.it.ins.dst == some t && p' r) := by
    induction done with
    | nil => rfl
    | cons r rs ih =>
      simp only [List.find?_cons, h r (List.mem_cons_self ..)]
      rw [ih fun r' hr' => h r' (List.mem_cons_of_mem _ hr')]
  rw [this]

/-- A step that floats, not yet taken: it would do what the plan says. -/
def Pend (e : Emb) (st : ASt) (tq : Nat → AV) (r : Rec) : Prop :=
  match r.it.ins with
  | .op d g o => if gOk tq g = true then
      (okind o = .same ∧ ∃ x, aop tq st.heap o = some (x, st.heap) ∧ (d.isSome = true → x = r.x)) ∨
      (∃ l mk, anew tq o = some (l, mk) ∧ st.heap.get r.b = some (.cells l) ∧ e.map r.b = none ∧ r.x = mk r.b)
    else r.x = uv
  | .call .. => False

def isNew (tq : Nat → AV) : AI → Bool
  | .op _ g o => gOk tq g && okind o == .new
  | .call .. => false

end Go.Proofs.Ytooaiddfokbffaa.E
