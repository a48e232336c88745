/- Code over abstract states, run: what a run comes to is shown of it. Conditions: none. -/
import Derived.Test.YtooaiddfokbffaaE20
set_option linter.unusedVariables false
set_option linter.unusedSimpArgs false
namespace Go.Proofs.Ytooaiddfokbffaa.E
open Go

/-! ### Alike -/
def bytesEq (a b : ByteArray) : Bool := a.data.toList == b.data.toList

theorem bytesEq_spec {a b : ByteArray} (h : bytesEq a b = true) : a = b := by
  unfold bytesEq at h
  have := eq_of_beq h
  cases a; cases b
  simp only at this
  rw [Array.toList_inj] at this
  rw [this]

def valEq : Value → Value → Bool
  | .bool a, .bool b => a == b
  | .int k a, .int k' b => decide (k = k') && decide (a = b)
  | .string a, .string b => bytesEq a b
  | .pointer none, .pointer none => true
  | .slice none l c, .slice none l' c' => decide (l = l') && decide (c = c')
  | .map none, .map none => true
  | .nilFunc, .nilFunc => true
  | .nilIface, .nilIface => true
  | _, _ => false

theorem valEq_spec {x y : Value} (h : valEq x y = true) : x = y := by
  unfold valEq at h
  split at h
  · rw [eq_of_beq h]
  · simp only [Bool.and_eq_true, decide_eq_true_eq] at h; rw [h.1, h.2]
  · rw [bytesEq_spec h]
  · rfl
  · simp only [Bool.and_eq_true, decide_eq_true_eq] at h; rw [h.1, h.2]
  · rfl
  · rfl
  · rfl
  · cases h

def fnEq : Fn → Fn → Bool
  | .func a, .func b => decide (a = b)
  | _, _ => false

theorem fnEq_spec {f g : Fn} (h : fnEq f g = true) : f = g := by
  unfold fnEq at h
  split at h
  · rw [of_decide_eq_true h]
  · cases h

mutual
def avEq : AV → AV → Bool
  | .v x, .v y => valEq x y
  | .ptr b o, .ptr b' o' => decide (b = b') && decide (o = o')
  | .slc b o es len lo ex, .slc b' o' es' len' lo' ex' => decide (b = b') && decide (o = o') && decide (es = es') && decide (len = len') && decide (lo = lo') && (ex == ex')
  | .ro len lo ex cs, .ro len' lo' ex' cs' => decide (len = len') && decide (lo = lo') && (ex == ex') && avEqL cs cs'
  | .rop cs o, .rop cs' o' => decide (o = o') && avEqL cs cs'
  | .agg cs, .agg cs' => avEqL cs cs'
  | .tup cs, .tup cs' => avEqL cs cs'
  | .fn f a b, .fn f' a' b' => fnEq f f' && avEqL a a' && avEqL b b'
  | _, _ => false
def avEqL : List AV → List AV → Bool
  | [], [] => true
  | x :: xs, y :: ys => avEq x y && avEqL xs ys
  | _, _ => false
end

mutual
theorem avEq_spec : ∀ (x y : AV), avEq x y = true → x = y
  | .v x, .v y, h => by simp only [avEq] at h; rw [valEq_spec h]
  | .ptr b o, .ptr b' o', h => by simp only [avEq, Bool.and_eq_true, decide_eq_true_eq] at h; rw [h.1, h.2]
  | .slc b o es len lo ex, .slc b' o' es' len' lo' ex', h => by
    simp only [avEq, Bool.and_eq_true, decide_eq_true_eq, beq_iff_eq] at h
    obtain ⟨⟨⟨⟨⟨h1, h2⟩, h3⟩, h4⟩, h5⟩, h6⟩ := h
    rw [h1, h2, h3, h4, h5, h6]
  | .ro len lo ex cs, .ro len' lo' ex' cs', h => by
    simp only [avEq, Bool.and_eq_true, decide_eq_true_eq, beq_iff_eq] at h
    obtain ⟨⟨⟨h1, h2⟩, h3⟩, h4⟩ := h
    rw [h1, h2, h3, avEqL_spec cs cs' h4]
  | .rop cs o, .rop cs' o', h => by simp only [avEq, Bool.and_eq_true, decide_eq_true_eq] at h; rw [h.1, avEqL_spec cs cs' h.2]
  | .agg cs, .agg cs', h => by simp only [avEq] at h; rw [avEqL_spec cs cs' h]
  | .tup cs, .tup cs', h => by simp only [avEq] at h; rw [avEqL_spec cs cs' h]
  | .fn f a b, .fn f' a' b', h => by simp only [avEq, Bool.and_eq_true] at h; rw [fnEq_spec h.1.1, avEqL_spec a a' h.1.2, avEqL_spec b b' h.2]
  | .v _, .ptr _ _, h | .v _, .slc .., h | .v _, .ro .., h | .v _, .rop .., h | .v _, .fn .., h | .v _, .agg .., h | .v _, .tup .., h | .v _, .ifc .., h | .v _, .mp .., h | .v _, .ch .., h => by simp [avEq] at h
  | .ptr _ _, .v _, h | .ptr _ _, .slc .., h | .ptr _ _, .ro .., h | .ptr _ _, .rop .., h | .ptr _ _, .fn .., h | .ptr _ _, .agg .., h | .ptr _ _, .tup .., h | .ptr _ _, .ifc .., h | .ptr _ _, .mp .., h | .ptr _ _, .ch .., h => by simp [avEq] at h
  | .slc .., .v _, h | .slc .., .ptr .., h | .slc .., .ro .., h | .slc .., .rop .., h | .slc .., .fn .., h | .slc .., .agg .., h | .slc .., .tup .., h | .slc .., .ifc .., h | .slc .., .mp .., h | .slc .., .ch .., h => by simp [avEq] at h
  | .ro .., .v _, h | .ro .., .ptr .., h | .ro .., .slc .., h | .ro .., .rop .., h | .ro .., .fn .., h | .ro .., .agg .., h | .ro .., .tup .., h | .ro .., .ifc .., h | .ro .., .mp .., h | .ro .., .ch .., h => by simp [avEq] at h
  | .rop .., .v _, h | .rop .., .ptr .., h | .rop .., .slc .., h | .rop .., .ro .., h | .rop .., .fn .., h | .rop .., .agg .., h | .rop .., .tup .., h | .rop .., .ifc .., h | .rop .., .mp .., h | .rop .., .ch .., h => by simp [avEq] at h
  | .agg .., .v _, h | .agg .., .ptr .., h | .agg .., .slc .., h | .agg .., .ro .., h | .agg .., .fn .., h | .agg .., .rop .., h | .agg .., .tup .., h | .agg .., .ifc .., h | .agg .., .mp .., h | .agg .., .ch .., h => by simp [avEq] at h
  | .tup .., .v _, h | .tup .., .ptr .., h | .tup .., .slc .., h | .tup .., .ro .., h | .tup .., .fn .., h | .tup .., .rop .., h | .tup .., .agg .., h | .tup .., .ifc .., h | .tup .., .mp .., h | .tup .., .ch .., h => by simp [avEq] at h
  | .fn .., .v _, h | .fn .., .ptr .., h | .fn .., .slc .., h | .fn .., .ro .., h | .fn .., .rop .., h | .fn .., .agg .., h | .fn .., .tup .., h | .fn .., .ifc .., h | .fn .., .mp .., h | .fn .., .ch .., h => by simp [avEq] at h
  | .ifc .., _, h | .mp .., _, h | .ch .., _, h => by simp [avEq] at h
theorem avEqL_spec : ∀ (xs ys : List AV), avEqL xs ys = true → xs = ys
  | [], [], _ => rfl
  | x :: xs, y :: ys, h => by simp only [avEqL, Bool.and_eq_true] at h; rw [avEq_spec x y h.1, avEqL_spec xs ys h.2]
  | [], _ :: _, h | _ :: _, [], h => by simp [avEqL] at h
end

def getEq (H H' : AHeap) (b : Nat) : Bool :=
  match H.get b, H'.get b with
  | some (.cells l), some (.cells l') => avEqL l l'
  | _, _ => false

theorem getEq_spec {H H' : AHeap} {b : Nat} (h : getEq H H' b = true) : H'.get b = H.get b := by
  unfold getEq at h
  split at h
  · rename_i l l' h1 h2
    rw [h1, h2, avEqL_spec l l' h]
  · cases h

def againB (st st' : ASt) : AI → Bool
  | .op d g o => !gOk st.tm g || match okind o with
    | .same => match aop st'.tm st'.heap o with
      | some (x, _) => match d with
        | some d => avEq x (st.tm d)
        | none => true
      | none => false
    | .new => match d with
      | some d => match avBlock (st.tm d) with
        | some b => getEq st.heap st'.heap b
        | none => true
      | none => false
    | .heavy => true
  | .call .. => true

theorem againB_spec {st st' : ASt} {i : AI} (h : againB st st' i = true) : again st st' i := by
  cases i with
  | call => trivial
  | op d g o =>
    simp only [againB, Bool.or_eq_true, Bool.not_eq_true'] at h
    simp only [again]
    intro hg
    rcases h with h | h
    · rw [hg] at h; cases h
    · cases hk : okind o <;> simp only [hk] at h ⊢
      · split at h
        · rename_i x H' hx
          have := same_heap hk hx
          subst this
          cases d with
          | none => exact ⟨x, hx⟩
          | some d => simp only at h ⊢; rw [← avEq_spec _ _ h]; exact hx
        · cases h
      · cases d with
        | none => cases h
        | some d =>
          simp only at h ⊢
          intro b hb
          rw [hb] at h
          exact getEq_spec h

/-! ### Runs -/
section
variable (call : Nat → List AV → AHeap → Option (AV × AHeap))

def evV (i : AI) (tm : Nat → AV) (H : AHeap) : Option (AV × AHeap) :=
  match i with
  | .op _ g o => if gOk tm g = true then aop tm H o else some (uv, H)
  | .call _ g f args => if gOk tm g = true then
      match f.ev tm with
      | .fn (.func fid) fs cs => call fid (fs ++ (args.map (·.ev tm) ++ cs)) H
      | _ => none
    else some (uv, H)

def evI (i : AI) (st : ASt) : Option ASt := (evV call i st.tm st.heap).map fun r => ⟨updO st.tm i.dst r.1, r.2⟩

def evIs : List AI → ASt → Option ASt
  | [], st => some st
  | i :: r, st => match evI call i st with
    | some st' => evIs r st'
    | none => none

def chkAll (st st' : ASt) (done : List AI) : List Nat → Bool
  | [] => true
  | p :: r => (match done[p]? with | some c => againB st st' c | none => true) && chkAll st st' done r

def evD : List AI → List DItem → ASt → Option ASt
  | _, [], st => some st
  | done, it :: r, st => match evI call it.ins st with
    | some st' => if chkAll st st' done it.chk = true then evD (done ++ [it.ins]) r st' else none
    | none => none

def evLoop (body : ASt → Option (AExit × ASt)) : Nat → ASt → Option (AExit × ASt)
  | 0, _ => none
  | n + 1, st => match body st with
    | some (.normal, st') => evLoop body n st'
    | r => r

def evC (lf : Nat) : ACode → ASt → Option (AExit × ASt)
  | .skip, st => some (.normal, st)
  | .ret, st => some (.ret, st)
  | .ops l, st => (evIs call l st).map fun s => (.normal, s)
  | .draw l, st => (evD call [] l st).map fun s => (.normal, s)
  | .seq a b, st => match evC lf a st with
    | some (.normal, st') => evC lf b st'
    | r => r
  | .cond c x y, st => match c.ev st.tm with
    | .v (.bool true) => evC lf x st
    | .v (.bool false) => evC lf y st
    | _ => none
  | .block id b, st => match evC lf b st with
    | some (.exit id', st') => if id' = id then some (.normal, st') else some (.exit id', st')
    | r => r
  | .loop b, st => evLoop (evC lf b) lf st
  | .exit id, st => some (.exit id, st)

end

def evF (T : Nat → Option AFn) (lf : Nat) : Nat → Nat → List AV → AHeap → Option (AV × AHeap)
  | 0, _, _, _ => none
  | n + 1, f, args, H => match T f with
    | some F => match evC (evF T lf n) lf F.code ⟨argTm args, H⟩ with
      | some (.exit _, _) => none
      | some (_, st) => (resAll st F.res).map fun vs => (packR vs, st.heap)
      | none => none
    | none => none

section
variable {P : Program} {call : Nat → List AV → AHeap → Option (AV × AHeap)}

def CallOk (P : Program) (call : Nat → List AV → AHeap → Option (AV × AHeap)) : Prop :=
  ∀ f args H x H', call f args H = some (x, H') → SCall P f args H fun y H'' => y = x ∧ H'' = H'

theorem stepV_mono {i : AI} {tm : Nat → AV} {H : AHeap} {R R' : AV → AHeap → Prop} (h : stepV P i tm H R) (hr : ∀ x H', R x H' → R' x H') : stepV P i tm H R' := by
  cases i with
  | op d g o =>
    simp only [stepV] at h ⊢
    split
    · rename_i hg; rw [if_pos hg] at h; obtain ⟨x, H', h1, h2⟩ := h; exact ⟨x, H', h1, hr _ _ h2⟩
    · rename_i hg; rw [if_neg hg] at h; exact hr _ _ h
  | call d g f args =>
    simp only [stepV] at h ⊢
    split
    · rename_i hg; rw [if_pos hg] at h; obtain ⟨fid, fs, cs, h1, h2⟩ := h; exact ⟨fid, fs, cs, h1, h2.mono hr⟩
    · rename_i hg; rw [if_neg hg] at h; exact hr _ _ h

theorem stepI_mono {i : AI} {st : ASt} {K K' : ASt → Prop} (h : stepI P i st K) (hk : ∀ st, K st → K' st) : stepI P i st K' := stepV_mono h fun _ _ h => hk _ h

theorem swpI_mono : ∀ (l : List AI) {st : ASt} {K K' : ASt → Prop}, swpI P l K st → (∀ st, K st → K' st) → swpI P l K' st
  | [], _, _, _, h, hk => hk _ h
  | i :: r, _, _, _, h, hk => stepI_mono (i := i) h fun _ h => swpI_mono r h hk

theorem swpD_mono : ∀ (l : List DItem) (dn : List AI) {st : ASt} {K K' : ASt → Prop}, swpD P dn l K st → (∀ st, K st → K' st) → swpD P dn l K' st
  | [], _, _, _, _, h, hk => hk _ h
  | i :: r, dn, _, _, _, h, hk => stepI_mono (i := i.ins) h fun _ h => ⟨h.1, swpD_mono r _ h.2 hk⟩

theorem swp_mono : ∀ (c : ACode) {st : ASt} {Q Q' : AExit → ASt → Prop}, swp P c Q st → (∀ x st, Q x st → Q' x st) → swp P c Q' st
  | .skip, _, _, _, h, hq => hq _ _ h
  | .ret, _, _, _, h, hq => hq _ _ h
  | .exit _, _, _, _, h, hq => hq _ _ h
  | .ops l, _, _, _, h, hq => swpI_mono l h fun _ h => hq _ _ h
  | .draw l, _, _, _, h, hq => swpD_mono l [] h fun _ h => hq _ _ h
  | .seq a b, _, _, _, h, hq => by
    refine swp_mono a (st := _) h fun x st h => ?_
    cases x with
    | normal => exact swp_mono b h hq
    | ret => exact hq _ _ h
    | exit id => exact hq _ _ h
  | .cond c x y, st, _, _, h, hq => by
    simp only [swp] at h ⊢
    split
    · rename_i t ht
      simp only [ht] at h
      split
      · rename_i hh; rw [if_pos hh] at h; exact swp_mono x h hq
      · rename_i hh; rw [if_neg hh] at h; exact swp_mono y h hq
    · rename_i hno
      split at h
      · rename_i t ht; exact absurd ht (hno t)
      · exact h
  | .block id b, _, _, _, h, hq => by
    refine swp_mono b (st := _) h fun x st h => ?_
    cases x with
    | normal => exact hq _ _ h
    | ret => exact hq _ _ h
    | exit id' =>
      simp only [inBlockQ] at h ⊢
      split
      · rename_i hh; rw [if_pos hh] at h; exact hq _ _ h
      · rename_i hh; rw [if_neg hh] at h; exact hq _ _ h
  | .loop b, st0, Q, Q', h, hq => by
    obtain ⟨n, hn⟩ := h
    refine ⟨n, ?_⟩
    induction n generalizing st0 with
    | zero => exact hn
    | succ n ih =>
      refine swp_mono b hn fun x st h => ?_
      cases x with
      | normal => exact ih st h
      | ret => exact hq _ _ h
      | exit id => exact hq _ _ h

theorem evV_sound (hc : CallOk P call) {i : AI} {tm : Nat → AV} {H : AHeap} {x : AV} {H' : AHeap} (h : evV call i tm H = some (x, H')) : stepV P i tm H fun y H'' => y = x ∧ H'' = H' := by
  cases i with
  | op d g o =>
    simp only [evV] at h
    simp only [stepV]
    split
    · rename_i hg; rw [if_pos hg] at h; exact ⟨x, H', h, rfl, rfl⟩
    · rename_i hg; rw [if_neg hg] at h; simp only [Option.some.injEq, Prod.mk.injEq] at h; exact ⟨h.1, h.2⟩
  | call d g f args =>
    simp only [evV] at h
    simp only [stepV]
    split
    · rename_i hg
      rw [if_pos hg] at h
      split at h
      · rename_i fid fs cs hf
        exact ⟨fid, fs, cs, hf, hc _ _ _ _ _ h⟩
      · cases h
    · rename_i hg; rw [if_neg hg] at h; simp only [Option.some.injEq, Prod.mk.injEq] at h; exact ⟨h.1, h.2⟩

theorem evI_sound (hc : CallOk P call) {i : AI} {st st' : ASt} (h : evI call i st = some st') {K : ASt → Prop} (hk : K st') : stepI P i st K := by
  simp only [evI, Option.map_eq_some_iff] at h
  obtain ⟨⟨x, H'⟩, h1, rfl⟩ := h
  exact stepV_mono (evV_sound hc h1) fun y H'' ⟨e1, e2⟩ => by subst e1 e2; exact hk

theorem evIs_sound (hc : CallOk P call) : ∀ (l : List AI) {st st' : ASt}, evIs call l st = some st' → ∀ {K : ASt → Prop}, K st' → swpI P l K st
  | [], _, _, h, _, hk => by simp only [evIs, Option.some.injEq] at h; subst h; exact hk
  | i :: r, st, st', h, K, hk => by
    simp only [evIs] at h
    split at h
    · rename_i st1 h1
      exact evI_sound hc h1 (evIs_sound hc r h hk)
    · cases h

theorem chkAll_spec {st st' : ASt} {dn : List AI} : ∀ (l : List Nat), chkAll st st' dn l = true → ∀ p ∈ l, ∀ c, dn[p]? = some c → again st st' c
  | [], _, p, hp, _, _ => by cases hp
  | q :: r, h, p, hp, c, hcc => by
    simp only [chkAll, Bool.and_eq_true] at h
    rcases List.mem_cons.1 hp with rfl | hp
    · have := h.1
      rw [hcc] at this
      exact againB_spec this
    · exact chkAll_spec r h.2 p hp c hcc

theorem evD_sound (hc : CallOk P call) : ∀ (l : List DItem) (dn : List AI) {st st' : ASt}, evD call dn l st = some st' → ∀ {K : ASt → Prop}, K st' → swpD P dn l K st
  | [], _, _, _, h, _, hk => by simp only [evD, Option.some.injEq] at h; subst h; exact hk
  | i :: r, dn, st, st', h, K, hk => by
    simp only [evD] at h
    split at h
    · rename_i st1 h1
      split at h
      · rename_i hchk
        exact evI_sound hc h1 ⟨chkAll_spec _ hchk, evD_sound hc r _ h hk⟩
      · cases h
    · cases h

theorem evC_sound (hc : CallOk P call) (lf : Nat) : ∀ (c : ACode) {st st' : ASt} {x : AExit}, evC call lf c st = some (x, st') → ∀ {Q : AExit → ASt → Prop}, Q x st' → swp P c Q st
  | .skip, _, _, _, h, _, hq => by simp only [evC, Option.some.injEq, Prod.mk.injEq] at h; obtain ⟨rfl, rfl⟩ := h; exact hq
  | .ret, _, _, _, h, _, hq => by simp only [evC, Option.some.injEq, Prod.mk.injEq] at h; obtain ⟨rfl, rfl⟩ := h; exact hq
  | .exit _, _, _, _, h, _, hq => by simp only [evC, Option.some.injEq, Prod.mk.injEq] at h; obtain ⟨rfl, rfl⟩ := h; exact hq
  | .ops l, _, _, _, h, _, hq => by
    simp only [evC, Option.map_eq_some_iff, Prod.mk.injEq] at h
    obtain ⟨s, h1, rfl, rfl⟩ := h
    exact evIs_sound hc l h1 hq
  | .draw l, _, _, _, h, _, hq => by
    simp only [evC, Option.map_eq_some_iff, Prod.mk.injEq] at h
    obtain ⟨s, h1, rfl, rfl⟩ := h
    exact evD_sound hc l [] h1 hq
  | .seq a b, st, st', x, h, Q, hq => by
    simp only [evC] at h
    split at h
    · rename_i st1 h1
      exact evC_sound hc lf a h1 (evC_sound hc lf b h hq)
    · rename_i hno
      refine evC_sound hc lf a h ?_
      cases x with
      | normal => exact absurd h (hno st')
      | ret => exact hq
      | exit id => exact hq
  | .cond c x y, st, _, _, h, Q, hq => by
    simp only [evC] at h
    simp only [swp]
    split at h
    · rename_i hv
      rw [hv]
      exact evC_sound hc lf x h hq
    · rename_i hv
      rw [hv]
      exact evC_sound hc lf y h hq
    · cases h
  | .block id b, st, st', x, h, Q, hq => by
    simp only [evC] at h
    split at h
    · rename_i id' st1 h1
      refine evC_sound hc lf b h1 ?_
      simp only [inBlockQ]
      split at h
      · rename_i hid; rw [if_pos hid]; simp only [Option.some.injEq, Prod.mk.injEq] at h; obtain ⟨rfl, rfl⟩ := h; exact hq
      · rename_i hid; rw [if_neg hid]; simp only [Option.some.injEq, Prod.mk.injEq] at h; obtain ⟨rfl, rfl⟩ := h; exact hq
    · rename_i hno
      refine evC_sound hc lf b h ?_
      cases x with
      | normal => exact hq
      | ret => exact hq
      | exit id' => exact absurd h (hno id' st')
  | .loop b, st, st', x, h, Q, hq => by
    simp only [evC] at h
    have key : ∀ (n : Nat) (st : ASt), evLoop (evC call lf b) n st = some (x, st') → loopN (swp P b) Q n st := by
      intro n
      induction n with
      | zero => intro st h; simp [evLoop] at h
      | succ n ih =>
        intro st h
        simp only [evLoop] at h
        split at h
        · rename_i st1 h1
          exact evC_sound hc lf b h1 (ih st1 h)
        · rename_i hno
          refine evC_sound hc lf b h ?_
          cases x with
          | normal => exact absurd h (hno st')
          | ret => exact hq
          | exit id => exact hq
    exact ⟨lf, key lf st h⟩

theorem evF_sound (hm : P.follows .mixedOrders = true) {T : Nat → Option AFn} (hT : ∀ k F, T k = some F → ∃ pl, compFn P k pl = some F) (lf : Nat) : ∀ n, CallOk P (evF T lf n) := by
  intro n
  induction n with
  | zero => intro f args H x H' h; simp [evF] at h
  | succ n ih =>
    intro f args H x H' h
    simp only [evF] at h
    split at h
    case h_2 => cases h
    rename_i F hF
    obtain ⟨pl, hpl⟩ := hT f F hF
    refine SCall.intro hm hpl ?_
    split at h
    · cases h
    · rename_i ex st hno h1
      refine evC_sound ih lf F.code h1 ?_
      simp only [Option.map_eq_some_iff, Prod.mk.injEq] at h
      obtain ⟨vs, h2, rfl, rfl⟩ := h
      cases ex with
      | exit id => exact (hno id rfl).elim
      | normal => exact ⟨vs, h2, rfl, rfl⟩
      | ret => exact ⟨vs, h2, rfl, rfl⟩
    · cases h

end
end Go.Proofs.Ytooaiddfokbffaa.E
