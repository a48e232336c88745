/- What of a plan is looked at, and the code of a function over abstract states. Conditions: none. -/
import Derived.Test.YtooaiddfokbffaaE18
set_option linter.unusedVariables false
set_option linter.unusedSimpArgs false
namespace Go.Proofs.Ytooaiddfokbffaa.E
open Go

/-! ### A plan is looked at -/
def edgesOf (ops : Array Oper) (i : Nat) : List Nat :=
  match ops[i]? with
  | some o => (o.after.toList.filter (Region.binds .any)).map (·.on)
  | none => []

theorem edgesOf_iff {ops : Array Oper} {i k : Nat} : k ∈ edgesOf ops i ↔ Edge ops i k := by
  unfold edgesOf Edge
  cases h : ops[i]? with
  | none => simp
  | some o =>
    simp only [List.mem_map, List.mem_filter, Array.mem_toList_iff, Option.some.injEq]
    constructor
    · rintro ⟨ed, ⟨h1, h2⟩, rfl⟩
      exact ⟨o, rfl, ed, h1, h2, rfl⟩
    · rintro ⟨o', rfl, ed, h1, h2, rfl⟩
      exact ⟨ed, ⟨h1, h2⟩, rfl⟩

def look (ms : List (Nat × Nat)) (k : Nat) : Nat :=
  match ms with
  | [] => 0
  | (i, m) :: r => if i = k then m else look r k

def maskL (ms : List (Nat × Nat)) : List Nat → Nat
  | [] => 0
  | k :: r => (1 <<< k) ||| (look ms k ||| maskL ms r)

theorem look_anc {ops : Array Oper} {ms : List (Nat × Nat)} (h : ∀ p ∈ ms, ∀ j, p.2.testBit j = true → Anc ops p.1 j) {k j : Nat} (hj : (look ms k).testBit j = true) : Anc ops k j := by
  induction ms with
  | nil => simp [look] at hj
  | cons p ms ih =>
    obtain ⟨i, m⟩ := p
    simp only [look] at hj
    split at hj
    · rename_i hi
      subst hi
      exact h (i, m) (List.mem_cons_self ..) j hj
    · exact ih (fun p hp => h p (List.mem_cons_of_mem _ hp)) hj

theorem maskL_anc {ops : Array Oper} {ms : List (Nat × Nat)} (h : ∀ p ∈ ms, ∀ j, p.2.testBit j = true → Anc ops p.1 j) {i : Nat} : ∀ (ks : List Nat), (∀ k ∈ ks, Edge ops i k) → ∀ j, (maskL ms ks).testBit j = true → Anc ops i j := by
  intro ks
  induction ks with
  | nil => intro _ j hj; simp [maskL] at hj
  | cons k ks ih =>
    intro hk j hj
    simp only [maskL, Nat.testBit_or, Bool.or_eq_true] at hj
    rcases hj with hj | hj | hj
    · rw [Nat.one_shiftLeft, Nat.testBit_two_pow] at hj
      have : k = j := by simpa using hj
      subst this
      exact .dir (hk k (List.mem_cons_self ..))
    · exact .trans (hk k (List.mem_cons_self ..)) (look_anc h hj)
    · exact ih (fun k hk' => hk k (List.mem_cons_of_mem _ hk')) j hj

def inO (d : Option Nat) (l : List Nat) : Bool :=
  match d with
  | some d => l.any (· == d)
  | none => false
def sameO : Option Nat → Option Nat → Bool
  | some d, some d' => d == d'
  | _, _ => false

theorem inO_false {d : Option Nat} {l : List Nat} (h : inO d l = false) {k : Nat} (hk : d = some k) : k ∉ l := by
  subst hk
  simp only [inO] at h
  intro hm
  have : (l.any fun x => x == k) = true := List.any_eq_true.2 ⟨k, hm, beq_self_eq_true k⟩
  rw [this] at h
  cases h

/-- A step against one that comes ahead of it; 'post': those between, and itself. -/
def oneP (m : Nat) (p : Nat) (tr : Nat × DItem) (btw : List (Nat × DItem)) (tq : Nat × DItem) : Bool :=
  !(tr.1 == tq.1) && !sameO tr.2.ins.dst tq.2.ins.dst && (m.testBit tr.1 ||
    (isFloat tr.2.ins && !inO tr.2.ins.dst tq.2.ins.reads && !inO tq.2.ins.dst tr.2.ins.reads &&
      (isFloat tq.2.ins || (tq.2.chk.any (· == p) && btw.all fun s => !inO s.2.ins.dst tr.2.ins.reads))))

def onesP (m : Nat) (tq : Nat × DItem) : Nat → List (Nat × DItem) → Bool
  | _, [] => true
  | p, tr :: r => oneP m p tr r tq && onesP m tq (p + 1) r

theorem onesP_spec {m : Nat} {tq : Nat × DItem} : ∀ (l : List (Nat × DItem)) (p : Nat), onesP m tq p l = true → ∀ (r : Nat) (tr : Nat × DItem), l[r]? = some tr → oneP m (p + r) tr (l.drop (r + 1)) tq = true := by
  intro l
  induction l with
  | nil => intro p _ r tr h; simp at h
  | cons x l ih =>
    intro p h r tr hr
    simp only [onesP, Bool.and_eq_true] at h
    cases r with
    | zero =>
      simp only [List.getElem?_cons_zero, Option.some.injEq] at hr
      subst hr
      simpa using h.1
    | succ r =>
      have := ih (p + 1) h.2 r tr (by simpa using hr)
      rw [show p + (r + 1) = p + 1 + r by omega]
      simpa using this

def stepP (ops : Array Oper) (m : Nat) (pre : List (Nat × DItem)) (tq : Nat × DItem) : Bool :=
  (edgesOf ops tq.1).all (fun k => pre.any fun t => t.1 == k) && (!isFloat tq.2.ins || !inO tq.2.ins.dst tq.2.ins.reads) && onesP m tq 0 pre

def planP (ops : Array Oper) : List (Nat × DItem) → List (Nat × Nat) → List (Nat × DItem) → Bool
  | _, _, [] => true
  | pre, ms, tq :: r => stepP ops (maskL ms (edgesOf ops tq.1)) pre tq && planP ops (pre ++ [tq]) ((tq.1, maskL ms (edgesOf ops tq.1)) :: ms) r

theorem planP_spec {ops : Array Oper} : ∀ (l pre : List (Nat × DItem)) (ms : List (Nat × Nat)), planP ops pre ms l = true → (∀ p ∈ ms, ∀ j, p.2.testBit j = true → Anc ops p.1 j) →
    ∀ (q : Nat) (tq : Nat × DItem), l[q]? = some tq → ∃ m, (∀ j, m.testBit j = true → Anc ops tq.1 j) ∧ stepP ops m (pre ++ l.take q) tq = true := by
  intro l
  induction l with
  | nil => intro pre ms _ _ q tq h; simp at h
  | cons x l ih =>
    intro pre ms h hms q tq hq
    simp only [planP, Bool.and_eq_true] at h
    have hm := maskL_anc hms (i := x.1) (edgesOf ops x.1) fun k hk => edgesOf_iff.1 hk
    cases q with
    | zero =>
      simp only [List.getElem?_cons_zero, Option.some.injEq] at hq
      subst hq
      exact ⟨_, hm, by simpa using h.1⟩
    | succ q =>
      obtain ⟨m, h1, h2⟩ := ih (pre ++ [x]) _ h.2 (fun p hp => by
        rcases List.mem_cons.1 hp with rfl | hp
        · exact hm
        · exact hms p hp) q tq (by simpa using hq)
      exact ⟨m, h1, by simpa using h2⟩

def compPlan (P : Program) (N : Nat) (ops : Array Oper) : List (Nat × List Nat) → Option (List (Nat × DItem))
  | [] => some []
  | (i, chk) :: r => match (ops[i]?).bind (compI P N ops), compPlan P N ops r with
    | some ai, some l => some ((i, ⟨ai, chk⟩) :: l)
    | _, _ => none

theorem compPlan_spec {P : Program} {N : Nat} {ops : Array Oper} : ∀ (pl : List (Nat × List Nat)) (L : List (Nat × DItem)), compPlan P N ops pl = some L → ∀ (q i : Nat) (it : DItem), L[q]? = some (i, it) → ∃ o, ops[i]? = some o ∧ compI P N ops o = some it.ins := by
  intro pl
  induction pl with
  | nil => intro L h q i it hq; simp only [compPlan, Option.some.injEq] at h; subst h; simp at hq
  | cons p pl ih =>
    intro L h q i it hq
    obtain ⟨i', chk⟩ := p
    simp only [compPlan] at h
    split at h
    · rename_i ai l h1 h2
      injection h with h
      subst h
      cases q with
      | zero =>
        simp only [List.getElem?_cons_zero, Option.some.injEq, Prod.mk.injEq] at hq
        obtain ⟨rfl, rfl⟩ := hq
        obtain ⟨o, h3, h4⟩ := Option.bind_eq_some_iff.1 h1
        exact ⟨o, h3, h4⟩
      | succ q => exact ih l h2 q i it (by simpa using hq)
    · cases h

def planOk (ops : Array Oper) (L : List (Nat × DItem)) : Bool :=
  (List.range ops.size).all (fun i => L.any fun t => t.1 == i) && planP ops [] [] L

theorem planOk_spec {P : Program} {N : Nat} {ops : Array Oper} {pl : List (Nat × List Nat)} {L : List (Nat × DItem)} (hc : compPlan P N ops pl = some L) (h : planOk ops L = true) : PlanOk P N ops L := by
  simp only [planOk, Bool.and_eq_true] at h
  obtain ⟨h1, h2⟩ := h
  have key := planP_spec L [] [] h2 (fun p hp => by cases hp)
  simp only [List.nil_append] at key
  have two : ∀ (r q ir iq : Nat) (tr tq : DItem), r < q → L[r]? = some (ir, tr) → L[q]? = some (iq, tq) → ∃ m, (∀ j, m.testBit j = true → Anc ops iq j) ∧ oneP m r (ir, tr) ((L.take q).drop (r + 1)) (iq, tq) = true := by
    intro r q ir iq tr tq hrq hr hq
    obtain ⟨m, k1, k2⟩ := key q _ hq
    simp only [stepP, Bool.and_eq_true] at k2
    have := onesP_spec _ _ k2.2 r (ir, tr) (by rw [List.getElem?_take, if_pos hrq]; exact hr)
    rw [Nat.zero_add] at this
    exact ⟨m, k1, this⟩
  refine ⟨compPlan_spec pl L hc, ?_, ?_, ?_, ?_, ?_, ?_, ?_, ?_, ?_⟩
  · intro i hi
    rw [List.all_eq_true] at h1
    have := h1 i (List.mem_range.2 hi)
    rw [List.any_eq_true] at this
    obtain ⟨⟨i', it⟩, h3, h4⟩ := this
    obtain ⟨q, hq⟩ := List.getElem?_of_mem h3
    have : i' = i := by simpa using h4
    subst this
    exact ⟨q, it, hq⟩
  · intro q i it hq k hk
    obtain ⟨m, _, k2⟩ := key q _ hq
    simp only [stepP, Bool.and_eq_true, List.all_eq_true] at k2
    have := k2.1.1 k (edgesOf_iff.2 hk)
    rw [List.any_eq_true] at this
    obtain ⟨⟨i', it'⟩, h3, h4⟩ := this
    have : i' = k := by simpa using h4
    subst this
    obtain ⟨r, hr⟩ := List.getElem?_of_mem h3
    rw [List.getElem?_take] at hr
    split at hr
    · exact ⟨r, it', by assumption, hr⟩
    · cases hr
  · intro q i it hq hf d hd
    obtain ⟨m, _, k2⟩ := key q _ hq
    simp only [stepP, Bool.and_eq_true] at k2
    have := k2.1.2
    simp only [hf, Bool.not_true, Bool.false_or, Bool.not_eq_true'] at this
    exact inO_false this hd
  · intro r q ir iq tr tq hrq hr hq hii
    obtain ⟨m, _, k⟩ := two r q ir iq tr tq hrq hr hq
    simp [oneP, hii] at k
  · intro r q ir iq tr tq hrq hr hq hf
    obtain ⟨m, hm, k⟩ := two r q ir iq tr tq hrq hr hq
    simp only [oneP, hf, Bool.false_and, Bool.or_false, Bool.and_eq_true] at k
    exact hm _ k.2
  · intro r q ir iq tr tq hrq hr hq hf hf'
    obtain ⟨m, hm, k⟩ := two r q ir iq tr tq hrq hr hq
    simp only [oneP, hf', Bool.false_or, Bool.and_eq_true, Bool.or_eq_true] at k
    rcases k.2 with k | k
    · exact .inl (hm _ k)
    · refine .inr ⟨?_, fun s js ts hrs hsq hs d hd => ?_⟩
      · obtain ⟨x, h3, h4⟩ := List.any_eq_true.1 k.2.1
        have : x = r := by simpa using h4
        exact this ▸ h3
      · rcases Nat.eq_or_lt_of_le hsq with h3 | h3
        · subst h3
          rw [hq] at hs
          simp only [Option.some.injEq, Prod.mk.injEq] at hs
          obtain ⟨rfl, rfl⟩ := hs
          exact inO_false (by simpa using k.1.2) hd
        · have := List.all_eq_true.1 k.2.2 (js, ts) (List.mem_of_getElem? (i := s - (r + 1)) (by
            rw [List.getElem?_drop, List.getElem?_take, show r + 1 + (s - (r + 1)) = s by omega, if_pos h3]
            exact hs))
          exact inO_false (by simpa using this) hd
  · intro r q ir iq tr tq hrq hr hq d hd hd'
    obtain ⟨m, hm, k⟩ := two r q ir iq tr tq hrq hr hq
    simp [oneP, hd, hd', sameO] at k
  · intro r q ir iq tr tq hrq hr hq d hd hm'
    obtain ⟨m, hm, k⟩ := two r q ir iq tr tq hrq hr hq
    simp only [oneP, Bool.and_eq_true, Bool.or_eq_true] at k
    rcases k.2 with k | k
    · exact hm _ k
    · exact absurd hm' (inO_false (by simpa using k.1.1.2) hd)
  · intro r q ir iq tr tq hrq hr hq d hd hm'
    obtain ⟨m, hm, k⟩ := two r q ir iq tr tq hrq hr hq
    simp only [oneP, Bool.and_eq_true, Bool.or_eq_true] at k
    rcases k.2 with k | k
    · exact hm _ k
    · exact absurd hm' (inO_false (by simpa using k.1.2) hd)

/-! ### Code -/
def findPl (id : Nat) : List (Nat × List (Nat × List Nat)) → List (Nat × List Nat)
  | [] => []
  | (i, p) :: r => if i = id then p else findPl id r

def compCode (P : Program) (N : Nat) (plans : List (Nat × List (Nat × List Nat))) : Code → Option ACode
  | .skip => some .skip
  | .label _ => some .skip
  | .ret => some .ret
  | .exit id => some (.exit id)
  | .region id ops draw => if draw = true then
      match compPlan P N ops (findPl id plans) with
      | some L => if planOk ops L = true then some (.draw (L.map (·.2))) else none
      | none => none
    else (compIs P N ops ops.toList).map .ops
  | .seq a b => match compCode P N plans a, compCode P N plans b with
    | some x, some y => some (.seq x y)
    | _, _ => none
  | .cond c a b => match carg c, compCode P N plans a, compCode P N plans b with
    | some z, some x, some y => some (.cond z x y)
    | _, _, _ => none
  | .block id b => (compCode P N plans b).map (.block id)
  | .loop b => (compCode P N plans b).map .loop
  | .scope b => compCode P N plans b
  | _ => none

def exitOf : AExit → Exit
  | .normal => .normal
  | .ret => .ret
  | .exit id => .exit id

section
variable {P : Program} {N : Nat} {plans : List (Nat × List (Nat × List Nat))}

theorem swp_sound (hm : P.follows .mixedOrders = true) : ∀ (c : Code) (ac : ACode), compCode P N plans c = some ac → ∀ (e : Emb) (w : World) (st : ASt) (a : Act), StRel N e st a w →
    ∀ (Q : AExit → ASt → Prop), swp P ac Q st → ∀ (QQ : Exit → Act → World → Prop), (∀ x st' a' w' e', Q x st' → StRel N e' st' a' w' → Evo e w e' w' → QQ (exitOf x) a' w') → c.wp P QQ a w := by
  intro c
  induction c with
  | skip =>
    intro ac hc e w st a hS Q h QQ hQ
    simp only [compCode, Option.some.injEq] at hc
    subst hc
    exact wp_skip (hQ .normal _ _ _ _ h hS (Evo.refl e w))
  | label l =>
    intro ac hc e w st a hS Q h QQ hQ
    simp only [compCode, Option.some.injEq] at hc
    subst hc
    exact wp_label (hQ .normal _ _ _ _ h hS (Evo.refl e w))
  | ret =>
    intro ac hc e w st a hS Q h QQ hQ
    simp only [compCode, Option.some.injEq] at hc
    subst hc
    exact wp_ret (hQ .ret _ _ _ _ h hS (Evo.refl e w))
  | exit id =>
    intro ac hc e w st a hS Q h QQ hQ
    simp only [compCode, Option.some.injEq] at hc
    subst hc
    exact wp_exit (hQ (.exit id) _ _ _ _ h hS (Evo.refl e w))
  | region id ops draw =>
    intro ac hc e w st a hS Q h QQ hQ
    simp only [compCode] at hc
    split at hc
    · rename_i hd
      subst hd
      split at hc
      · rename_i L hL
        split at hc
        · rename_i hok
          injection hc with hc
          subst hc
          exact draw_sound hm (planOk_spec hL hok) hS h fun st' a' w' e' k hs hv => hQ .normal st' a' w' e' k hs hv
        · cases hc
      · cases hc
    · rename_i hd
      have : draw = false := by simpa using hd
      subst this
      simp only [Option.map_eq_some_iff] at hc
      obtain ⟨is, his, rfl⟩ := hc
      exact wp_region_list (list_sound ops.toList is his e w st a hS (Q .normal) h QQ fun st' a' w' e' k hs hv => hQ .normal st' a' w' e' k hs hv)
  | seq x y ihx ihy =>
    intro ac hc e w st a hS Q h QQ hQ
    simp only [compCode] at hc
    split at hc
    · rename_i ax ay hx hy
      injection hc with hc
      subst hc
      refine wp_seq (ihx ax hx e w st a hS _ h _ fun q st' a' w' e' k hs hv => ?_)
      cases q with
      | normal => exact ihy ay hy e' w' st' a' hs Q k QQ fun q2 st2 a2 w2 e2 k2 hs2 hv2 => hQ q2 st2 a2 w2 e2 k2 hs2 (hv.trans hv2)
      | ret => exact hQ .ret _ _ _ _ k hs hv
      | exit id => exact hQ (.exit id) _ _ _ _ k hs hv
    · cases hc
  | cond c x y ihx ihy =>
    intro ac hc e w st a hS Q h QQ hQ
    simp only [compCode] at hc
    split at hc
    · rename_i z ax ay hz hx hy
      injection hc with hc
      subst hc
      simp only [swp] at h
      split at h
      · rename_i t ht
        have hv := carg_rel hS.tm hz
        rw [ht] at hv
        generalize hu : a.eval c = u at hv
        cases hv
        cases t with
        | true => exact wp_cond_true hu (ihx ax hx e w st a hS Q (by simpa using h) QQ hQ)
        | false => exact wp_cond_false hu (ihy ay hy e w st a hS Q (by simpa using h) QQ hQ)
      · exact h.elim
    · cases hc
  | block id b ih =>
    intro ac hc e w st a hS Q h QQ hQ
    simp only [compCode, Option.map_eq_some_iff] at hc
    obtain ⟨ab, hb, rfl⟩ := hc
    refine wp_block (ih ab hb e w st a hS _ h _ fun q st' a' w' e' k hs hv => ?_)
    cases q with
    | normal => exact hQ .normal _ _ _ _ k hs hv
    | ret => exact hQ .ret _ _ _ _ k hs hv
    | exit id' =>
      simp only [inBlockQ] at k
      simp only [exitOf, Exit.inBlock]
      split at k
      · rename_i hid
        rw [if_pos hid]
        exact hQ .normal _ _ _ _ k hs hv
      · rename_i hid
        rw [if_neg hid]
        exact hQ (.exit id') _ _ _ _ k hs hv
  | loop b ih =>
    intro ac hc e w st a hS Q h QQ hQ
    simp only [compCode, Option.map_eq_some_iff] at hc
    obtain ⟨ab, hb, rfl⟩ := hc
    obtain ⟨n, hn⟩ := h
    refine wp_loop_rounds n ?_
    induction n generalizing e w st a with
    | zero => exact hn.elim
    | succ n ihn =>
      refine ih ab hb e w st a hS _ hn _ fun q st' a' w' e' k hs hv => ?_
      cases q with
      | normal => exact ihn e' w' st' a' hs (fun q2 st2 a2 w2 e2 k2 hs2 hv2 => hQ q2 st2 a2 w2 e2 k2 hs2 (hv.trans hv2)) k
      | ret => exact hQ .ret _ _ _ _ k hs hv
      | exit id => exact hQ (.exit id) _ _ _ _ k hs hv
  | scope b ih =>
    intro ac hc e w st a hS Q h QQ hQ
    simp only [compCode] at hc
    refine wp_scope_straight (ih ac hc e w st a hS Q h _ fun q st' a' w' e' k hs hv => ?_)
    have := hQ q st' a' w' e' k hs hv
    cases q <;> exact this
  | _ =>
    intro ac hc
    simp [compCode] at hc

end

/-! ### Functions -/
inductive ARes where
  | t (n : Nat)
  | c (addr n : Nat) (agg : Bool)

structure AFn where
  res : List ARes
  code : ACode

def compRes (P : Program) : List ResultVar → Option (List ARes)
  | [] => some []
  | .tmp t :: r => (compRes P r).map (.t t :: ·)
  | .cell a t :: r => match P.underlying t, tSize P t, compRes P r with
    | some d, some n, some l => some (.c a n (aggD d) :: l)
    | _, _, _ => none

def compFn (P : Program) (f : FuncId) (plans : List (Nat × List (Nat × List Nat))) : Option AFn :=
  match P.funcs[f]? with
  | some fn => match fn.body with
    | some c => if (fn.name == "runtime.NumGoroutine") = true then none else match compCode P fn.ntmps plans c, compRes P fn.results.toList with
      | some ac, some rs => some ⟨rs, ac⟩
      | _, _ => none
    | none => none
  | none => none

def resOne (st : ASt) : ARes → Option AV
  | .t n => some (st.tm n)
  | .c a n agg => (aload st.heap n (st.tm a)).bind (apack agg)

def resAll (st : ASt) : List ARes → Option (List AV)
  | [] => some []
  | r :: rs => match resOne st r, resAll st rs with
    | some x, some xs => some (x :: xs)
    | _, _ => none

def packR : List AV → AV
  | [x] => x
  | xs => .tup xs

def postF (rs : List ARes) (R : AV → AHeap → Prop) : AExit → ASt → Prop
  | .exit _, _ => False
  | _, st => ∃ vs, resAll st rs = some vs ∧ R (packR vs) st.heap

def argTm (args : List AV) : Nat → AV := fun n => args.getD n uv

section
variable {P : Program} {e : Emb} {w : World}

def resSem (tmps : Array Value) : ResultVar → Sem Value
  | .tmp t => pure (tmps.getD t undef)
  | .cell c t => do loadVar t (← asAddr (tmps.getD c undef))

theorem run_resOne {rv : ResultVar} {r : ARes} {rest : List ResultVar} {rs : List ARes} (hc : compRes P (rv :: rest) = some (r :: rs)) {N : Nat} {st : ASt} {a : Act} (hS : StRel N e st a w) {x : AV} (h : resOne st r = some x) :
    ∃ u, (resSem a.tmps rv).run P w = .ok u w ∧ VRel e w x u := by
  cases rv with
  | tmp t =>
    simp only [compRes, Option.map_eq_some_iff, List.cons.injEq] at hc
    obtain ⟨_, _, rfl, _⟩ := hc
    simp only [resOne, Option.some.injEq] at h
    subst h
    exact ⟨_, rfl, hS.tm t⟩
  | cell c t =>
    simp only [compRes] at hc
    split at hc
    · rename_i d n l hd hn hl
      simp only [Option.some.injEq, List.cons.injEq] at hc
      obtain ⟨rfl, _⟩ := hc
      simp only [resOne] at h
      obtain ⟨cs, h1, h2⟩ := Option.bind_eq_some_iff.1 h
      obtain ⟨ad, us, h3, hl', hcell, hr⟩ := aload_rel hS.heap (hS.tm c) h1
      have e1 : ∀ ad : Addr, (Instr.loadAt t (.pointer (some ad))).run P w = (loadVar t ad).run P w := fun ad => by simp [Instr.loadAt, Instr.sureAddr]
      simp only [resSem, h3]
      rcases apack_rel hr h2 with ⟨ha, hv⟩ | ⟨ha, v, rfl, hv⟩
      · exact ⟨_, by simp only [asAddr, Sem.run_bind, Sem.run_pure, Result.andThen_ok]; rw [← e1]; exact run_loadAt_agg hd ha (by rw [hl']; exact hn) hcell, hv⟩
      · exact ⟨_, by simp only [asAddr, Sem.run_bind, Sem.run_pure, Result.andThen_ok]; rw [← e1]; exact run_loadAt_one hd ha (by simpa [Addr.add] using hcell 0 v rfl), hv⟩
    · cases hc

theorem run_resAll {N : Nat} {st : ASt} {a : Act} (hS : StRel N e st a w) : ∀ (rv : List ResultVar) (rs : List ARes), compRes P rv = some rs → ∀ vs, resAll st rs = some vs →
    ∃ us, (rv.mapM (resSem a.tmps)).run P w = .ok us w ∧ LRel e w vs us := by
  intro rv
  induction rv with
  | nil =>
    intro rs hc vs h
    simp only [compRes, Option.some.injEq] at hc
    subst hc
    simp only [resAll, Option.some.injEq] at h
    subst h
    exact ⟨[], rfl, rfl, fun i x u h => by simp at h⟩
  | cons r rv ih =>
    intro rs hc vs h
    have hsp : ∃ r' rs', rs = r' :: rs' ∧ compRes P rv = some rs' := by
      cases r with
      | tmp t => simp only [compRes, Option.map_eq_some_iff] at hc; obtain ⟨l, h1, rfl⟩ := hc; exact ⟨_, _, rfl, h1⟩
      | cell c t =>
        simp only [compRes] at hc
        split at hc
        · rename_i h1; injection hc with hc; exact ⟨_, _, hc.symm, h1⟩
        · cases hc
    obtain ⟨r', rs', rfl, hrs⟩ := hsp
    simp only [resAll] at h
    split at h
    · rename_i x xs h1 h2
      injection h with h
      subst h
      obtain ⟨u, k1, k2⟩ := run_resOne hc hS h1
      obtain ⟨us, k3, k4⟩ := ih rs' hrs xs h2
      refine ⟨u :: us, ?_, ?_⟩
      · rw [List.mapM_cons]
        simp only [Sem.run_bind]
        erw [k1]
        simp only [Result.andThen_ok, Sem.run_bind]
        erw [k3]
        simp
      · refine ⟨by simp [k4.1], fun i y v hy hv => ?_⟩
        cases i with
        | zero => simp at hy hv; subst hy hv; exact k2
        | succ i => exact k4.2 i y v (by simpa using hy) (by simpa using hv)
    · cases h

theorem argTm_rel {args : List AV} {us : List Value} (h : LRel e w args us) (n : Nat) : TRel e w (argTm args) ⟨us.toArray ++ Array.replicate n undef, []⟩ := by
  intro k
  unfold argTm
  rw [List.getD_eq_getElem?_getD, Array.getD_eq_getD_getElem?]
  rcases Nat.lt_or_ge k us.length with hk | hk
  · have hk' : k < args.length := by rw [← h.1]; exact hk
    rw [Array.getElem?_append_left (by simpa using hk), List.getElem?_eq_getElem hk']
    simp only [List.getElem?_toArray, List.getElem?_eq_getElem hk, Option.getD_some]
    exact h.2 k _ _ (List.getElem?_eq_getElem hk') (List.getElem?_eq_getElem hk)
  · rw [List.getElem?_eq_none (by rw [← h.1]; exact hk), Array.getElem?_append_right (by simpa using hk), Array.getElem?_replicate]
    simp only [Option.getD_none]
    split <;> exact VRel.uv

theorem SCall.intro (hm : P.follows .mixedOrders = true) {f : FuncId} {plans : List (Nat × List (Nat × List Nat))} {F : AFn} (hc : compFn P f plans = some F) {args : List AV} {H : AHeap} {R : AV → AHeap → Prop}
    (h : swp P F.code (postF F.res R) ⟨argTm args, H⟩) : SCall P f args H R := by
  unfold compFn at hc
  split at hc
  case h_2 => cases hc
  rename_i fn hf
  split at hc
  case h_2 => cases hc
  rename_i c hb
  split at hc
  case isTrue => cases hc
  rename_i hn
  split at hc
  case h_2 => cases hc
  rename_i ac rs hac hrs
  injection hc with hc
  subst hc
  refine ⟨⟨fn, hf, by simpa using hn, by rw [hb]; rfl⟩, fun e w us hH hL => calls_of_wp hf hb ?_⟩
  have hS : StRel fn.ntmps e ⟨argTm args, H⟩ ⟨us.toArray ++ Array.replicate (fn.ntmps - us.toArray.size) undef, []⟩ w := ⟨hH, argTm_rel hL _, by simp; omega, rfl⟩
  refine swp_sound hm c ac hac e w _ _ hS _ h _ fun x st' a' w' e' k hs hv => ?_
  have fin : (∃ vs, resAll st' rs = some vs ∧ R (packR vs) st'.heap) → a'.defers = [] ∧ ∃ v, (results fn a'.tmps).run P w' = .ok v w' ∧ CPost e w R (.returned v) w' := by
    rintro ⟨vs, h1, h2⟩
    obtain ⟨us', k1, k2⟩ := run_resAll hs _ _ hrs vs h1
    refine ⟨hs.defers, ?_⟩
    have hmap : (fn.results.mapM (resSem a'.tmps)).run P w' = .ok us'.toArray w' := by
      rw [Array.mapM_eq_mapM_toList]
      simp only [Sem.run_map]
      erw [k1]
      rfl
    have hres : (results fn a'.tmps).run P w' = .ok (if h : us'.toArray.size = 1 then us'.toArray[0] else .tuple us'.toArray) w' := by
      unfold results
      simp only [Sem.run_bind]
      erw [hmap]
      rfl
    refine ⟨_, hres, _, _, _, e', rfl, h2, hs.heap, ?_, hv⟩
    match vs, us', k2 with
    | [x], [u], k2 => exact k2.head
    | [], [], k2 => exact .tup _ _ (by simp) (fun i x u h => by simp at h)
    | x :: y :: xs, u :: v :: us, k2 =>
      rw [dif_neg (by simp)]
      exact .tup _ _ (by simpa using k2.1) (fun i x u h1 h2 => k2.2 i x u h1 (by simpa using h2))
    | [x], [], k2 => have := k2.1; simp at this
    | [x], u :: v :: us, k2 => have := k2.1; simp at this
    | [], u :: us, k2 => have := k2.1; simp at this
    | x :: y :: xs, [], k2 => have := k2.1; simp at this
    | x :: y :: xs, [u], k2 => have := k2.1; simp at this
  cases x with
  | normal => exact fin k
  | ret => exact fin k
  | exit id => exact k.elim

end
end Go.Proofs.Ytooaiddfokbffaa.E
