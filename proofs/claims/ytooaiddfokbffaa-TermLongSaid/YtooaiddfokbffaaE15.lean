/- What an abstract operation reads, and what it does not hang on. Conditions: none. -/
import Derived.Test.YtooaiddfokbffaaE14
set_option linter.unusedVariables false
set_option linter.unusedSimpArgs false
namespace Go.Proofs.Ytooaiddfokbffaa.E
open Go

def aReads : AOp → List AArg
  | .move x => [x]
  | .pick c a b => [c, a, b]
  | .alloc _ => []
  | .box x => [x]
  | .build _ ps => ps.map (·.2.2)
  | .buildS _ _ _ ps => ps.map (·.2.2)
  | .load _ _ a => [a]
  | .store _ a x => [a, x]
  | .nilchk x => [x]
  | .ibin _ x y => [x, y]
  | .sbin _ x y => [x, y]
  | .bbin _ x y => [x, y]
  | .nbin _ _ x => [x]
  | .ebin _ _ x y => [x, y]
  | .not x => [x]
  | .neg x => [x]
  | .conv _ x => [x]
  | .fld _ x => [x]
  | .idx _ x i => [x, i]
  | .idxA _ _ x i => [x, i]
  | .part _ _ _ x => [x]
  | .aidx _ _ _ x i => [x, i]
  | .sidx x i => [x, i]
  | .slice _ x l h m => x :: (l.toList ++ (h.toList ++ m.toList))
  | .sslice x l h => x :: (l.toList ++ h.toList)
  | .mks _ _ l c => [l, c]
  | .ext x _ => [x]
  | .func _ a b => a ++ b
  | .len _ x => [x]
  | .append _ _ s x => [s, x]
  | .mm _ x y => [x, y]

section
variable {tm tm' : Nat → AV} {H : AHeap}

theorem evO_congr {x : Option AArg} (h : ∀ y ∈ x.toList, y.ev tm = y.ev tm') : x.map (·.ev tm) = x.map (·.ev tm') := by
  cases x with
  | none => rfl
  | some y => simp [h y (by simp)]

theorem evL_congr {xs : List AArg} (h : ∀ y ∈ xs, y.ev tm = y.ev tm') : xs.map (·.ev tm) = xs.map (·.ev tm') := List.map_congr_left h

theorem evP_congr {ps : List (Nat × Nat × AArg)} (h : ∀ y ∈ ps.map (·.2.2), y.ev tm = y.ev tm') : (ps.map fun p => (p.1, p.2.1, p.2.2.ev tm)) = ps.map fun p => (p.1, p.2.1, p.2.2.ev tm') :=
  List.map_congr_left fun p hp => by rw [h p.2.2 (List.mem_map_of_mem hp)]

theorem aop_congr {o : AOp} (h : ∀ x ∈ aReads o, x.ev tm = x.ev tm') : aop tm H o = aop tm' H o := by
  cases o <;> simp only [aReads, List.mem_cons, List.not_mem_nil, or_false, forall_eq_or_imp, forall_eq, List.mem_append] at h <;> simp only [aop]
  case build z ps => rw [evP_congr h]
  case buildS es n z ps => rw [evP_congr h]
  case slice es x l hi m => rw [h.1, evO_congr (fun y hy => h.2 y (.inl hy)), evO_congr (fun y hy => h.2 y (.inr (.inl hy))), evO_congr (fun y hy => h.2 y (.inr (.inr hy)))]
  case sslice x l hi => rw [h.1, evO_congr (fun y hy => h.2 y (.inl hy)), evO_congr (fun y hy => h.2 y (.inr hy))]
  case func f a b => rw [evL_congr (fun y hy => h y (.inl hy)), evL_congr (fun y hy => h y (.inr hy))]
  all_goals (first | rw [h] | rw [h.1, h.2] | rw [h.1, h.2.1, h.2.2])

theorem same_heap {o : AOp} (hk : okind o = .same) {x : AV} {H' : AHeap} (h : aop tm H o = some (x, H')) : H' = H := by
  cases o <;> simp only [okind, reduceCtorEq] at hk <;> simp only [aop] at h
  all_goals (first
    | (simp only [Option.some.injEq, Prod.mk.injEq] at h; exact h.2.symm)
    | (simp only [Option.map_eq_some_iff, Prod.mk.injEq] at h; obtain ⟨_, _, _, h⟩ := h; exact h.symm)
    | skip)
  all_goals (split at h <;> first
    | (cases h; done)
    | (simp only [Option.some.injEq, Prod.mk.injEq] at h; exact h.2.symm)
    | (simp only [Option.map_eq_some_iff, Prod.mk.injEq] at h; obtain ⟨_, _, _, h⟩ := h; exact h.symm)
    | skip)
  all_goals (split at h <;> first
    | (cases h; done)
    | (simp only [Option.some.injEq, Prod.mk.injEq] at h; exact h.2.symm)
    | (simp only [Option.map_eq_some_iff, Prod.mk.injEq] at h; obtain ⟨_, _, _, h⟩ := h; exact h.symm)
    | skip)
  all_goals (split at h <;> first
    | (cases h; done)
    | (simp only [Option.some.injEq, Prod.mk.injEq] at h; exact h.2.symm)
    | (simp only [Option.map_eq_some_iff, Prod.mk.injEq] at h; obtain ⟨_, _, _, h⟩ := h; exact h.symm))

/-- More blocks change nothing. -/
theorem aload_more (hw : ∀ b o, H.get b = some o → b < H.next) {n : Nat} {x : AV} {cs : List AV} (h : aload H n x = some cs) (ob : AObj) : aload (H.new ob) n x = some cs := by
  cases x <;> simp only [aload] at h ⊢ <;> try (cases h; done)
  case ptr b off =>
    split at h
    · rename_i l hl
      have := hw b _ hl
      rw [new_get, if_neg (by omega), hl]
      exact h
    · cases h
  all_goals exact h

theorem alen_more (hw : ∀ b o, H.get b = some o → b < H.next) {k : LK} {x : AV} {n : Nat} (h : alen H k x = some n) (ob : AObj) : alen (H.new ob) k x = some n := by
  unfold alen at h ⊢
  split at h <;> first | exact h | skip
  all_goals (split at h <;> first | (cases h; done) | skip)
  all_goals (first | (rename_i h1; have := hw _ _ h1; rw [new_get, if_neg (by omega), h1]; exact h) | skip)

def heapless : AOp → Bool
  | .load .. | .len .. => false
  | o => okind o = .same

theorem map_pair (q : Option AV) (H H' : AHeap) : (q.map fun y => (y, H')) = (q.map fun y => (y, H)).map fun p => (p.1, H') := by cases q <;> rfl

theorem heapless_any {o : AOp} (hk : heapless o = true) (H' : AHeap) : aop tm H' o = (aop tm H o).map fun p => (p.1, H') := by
  cases o <;> simp only [heapless, okind, decide_eq_true_eq, reduceCtorEq, decide_false, Bool.false_eq_true] at hk <;> simp only [aop]
  all_goals (first
    | rfl
    | (simp only [Option.map_map]; rfl)
    | (split <;> first
        | rfl
        | (simp only [Option.map_map]; rfl)
        | (split <;> first
            | rfl
            | (simp only [Option.map_map]; rfl)
            | (split <;> first | rfl | (simp only [Option.map_map]; rfl)))))

theorem same_more {o : AOp} (hk : okind o = .same) (hw : ∀ b ob, H.get b = some ob → b < H.next) {x : AV} (h : aop tm H o = some (x, H)) (ob : AObj) : aop tm (H.new ob) o = some (x, H.new ob) := by
  cases hl : heapless o with
  | true => rw [heapless_any hl (H := H), h]; rfl
  | false =>
    cases o <;> simp only [okind, reduceCtorEq] at hk <;> simp [heapless, okind] at hl
    · rename_i agg n a
      simp only [aop, Option.map_eq_some_iff, Prod.mk.injEq] at h ⊢
      obtain ⟨y, h1, rfl, _⟩ := h
      obtain ⟨cs, h2, h3⟩ := Option.bind_eq_some_iff.1 h1
      exact ⟨y, by rw [aload_more hw h2, Option.bind_some, h3], rfl, trivial⟩
    · rename_i k a
      simp only [aop, Option.map_eq_some_iff, Prod.mk.injEq] at h ⊢
      obtain ⟨n, h1, rfl, _⟩ := h
      exact ⟨n, alen_more hw h1 ob, rfl, trivial⟩

/-- What is laid out by an operation that makes a block, and the value of the block's number. -/
def anew (tm : Nat → AV) : AOp → Option (List AV × (Nat → AV))
  | .alloc z => some (z, fun b => .ptr b 0)
  | .box x => some ((x.ev tm).acells, fun b => .ptr b 0)
  | .buildS es n z parts => (afill z (parts.map fun p => (p.1, p.2.1, p.2.2.ev tm))).map fun cs => (cs, fun b => .slc b 0 es n n true)
  | _ => none

theorem new_aop {o : AOp} (hk : okind o = .new) {x : AV} {H' : AHeap} (h : aop tm H o = some (x, H')) : ∃ l mk, anew tm o = some (l, mk) ∧ x = mk H.next ∧ H' = H.new (.cells l) := by
  cases o <;> simp only [okind, reduceCtorEq] at hk <;> simp only [aop] at h
  · simp only [Option.some.injEq, Prod.mk.injEq] at h; exact ⟨_, _, rfl, h.1.symm, h.2.symm⟩
  · simp only [Option.some.injEq, Prod.mk.injEq] at h; exact ⟨_, _, rfl, h.1.symm, h.2.symm⟩
  · simp only [Option.map_eq_some_iff, Prod.mk.injEq] at h
    obtain ⟨cs, h1, h2, h3⟩ := h
    exact ⟨cs, _, by simp only [anew, h1]; rfl, h2.symm, h3.symm⟩

theorem anew_kind {o : AOp} {r : List AV × (Nat → AV)} (h : anew tm o = some r) : okind o = .new := by
  cases o <;> simp only [anew, reduceCtorEq] at h <;> rfl

theorem anew_block {o : AOp} {l : List AV} {mk : Nat → AV} (h : anew tm o = some (l, mk)) (b : Nat) : avBlock (mk b) = some b := by
  cases o <;> simp only [anew, reduceCtorEq] at h
  · simp only [Option.some.injEq, Prod.mk.injEq] at h; obtain ⟨_, rfl⟩ := h; rfl
  · simp only [Option.some.injEq, Prod.mk.injEq] at h; obtain ⟨_, rfl⟩ := h; rfl
  · simp only [Option.map_eq_some_iff, Prod.mk.injEq] at h; obtain ⟨_, _, _, rfl⟩ := h; rfl

theorem anew_congr {o : AOp} (h : ∀ x ∈ aReads o, x.ev tm = x.ev tm') : anew tm o = anew tm' o := by
  cases o <;> simp only [aReads, List.mem_cons, List.not_mem_nil, or_false, forall_eq_or_imp, forall_eq] at h <;> simp only [anew]
  · rw [h]
  · rw [evP_congr h]

end

section
variable {e : Emb} {w : World} {H : AHeap} {P : Program} {tm : Nat → AV} {a : Act}

/-- An operation that makes a block, where the block was laid out before: it comes to lie. -/
theorem anew_sound (hH : HRel e H w) (hT : TRel e w tm a) (o : Oper) {ao : AOp} (hc : compOp P o.op = some ao) {l : List AV} {mk : Nat → AV} (h : anew tm ao = some (l, mk)) {b : Nat} (hb : H.get b = some (.cells l)) (hm : e.map b = none) :
    ∃ u w', Ran P a.eval o w u w' ∧ HRel (e.add b w.heap.size) H w' ∧ VRel (e.add b w.heap.size) w' (mk b) u ∧ Evo0 e w (e.add b w.heap.size) w' := by
  have fin : ∀ (cs : Array Value) (t : TypeId), (∀ (i : Nat) (x : AV), l[i]? = some x → ∃ u, cs[i]? = some u ∧ VRel e w x u) →
      HRel (e.add b w.heap.size) H (w.alloc (.cells cs t)) ∧ Evo0 e w (e.add b w.heap.size) (w.alloc (.cells cs t)) := by
    intro cs t hl
    have hv := Evo0.add hm (w := w) (.cells cs t)
    exact ⟨hH.add hb hm _ ⟨cs, t, heap_alloc_new w _, fun i x hx => let ⟨u, h1, h2⟩ := hl i x hx; ⟨u, h1, h2.evo0 hv⟩⟩, hv⟩
  cases ao <;> simp only [anew, reduceCtorEq] at h
  case alloc z =>
    cases ho : o.op <;> rw [ho] at hc <;> (try (simp only [compOp, compBin, compCall, Option.map_eq_some_iff, reduceCtorEq, and_false, exists_false] at hc; done))
    case alloc t =>
      simp only [compOp, Option.map_eq_some_iff, AOp.alloc.injEq] at hc
      obtain ⟨z', hz, rfl⟩ := hc
      simp only [Option.some.injEq, Prod.mk.injEq] at h
      obtain ⟨rfl, rfl⟩ := h
      obtain ⟨i, v, hi, hzv, hr⟩ := tZero_rel hz
      obtain ⟨h1, h2⟩ := fin v.cells t fun j x hx => by
        obtain ⟨u, h1, h2⟩ := (hr e w).get hx
        exact ⟨u, by simpa using h1, h2⟩
      refine ⟨.pointer (some ⟨w.heap.size, 0, none⟩), _, .inl ?_, h1, .ptr _ _ _ (by rw [add_map, if_pos rfl]), h2⟩
      simp [execOp, ho, Instr.alloc, zeroValue, typeInfo, hi, hzv, newVar, newRow]
    all_goals (simp only [compOp, compBin, compCall] at hc; repeat' (split at hc)) <;> first | (simp at hc; done) | (rename_i heq; cases heq; done) | (simp_all; done)
  case box x' =>
    cases ho : o.op <;> rw [ho] at hc <;> (try (simp only [compOp, compBin, compCall, Option.map_eq_some_iff, reduceCtorEq, and_false, exists_false] at hc; done))
    case box t x =>
      simp only [compOp, Option.map_eq_some_iff, AOp.box.injEq] at hc
      obtain ⟨y, hy, rfl⟩ := hc
      simp only [Option.some.injEq, Prod.mk.injEq] at h
      obtain ⟨rfl, rfl⟩ := h
      have hv := carg_rel hT hy
      obtain ⟨h1, h2⟩ := fin (a.eval x).cells t fun j x hx => by
        obtain ⟨u, h1, h2⟩ := hv.acells.get hx
        exact ⟨u, by simpa using h1, h2⟩
      refine ⟨.pointer (some ⟨w.heap.size, 0, none⟩), _, .inl ?_, h1, .ptr _ _ _ (by rw [add_map, if_pos rfl]), h2⟩
      simp [execOp, ho, Instr.box, newVar, newRow]
    all_goals (simp only [compOp, compBin, compCall] at hc; repeat' (split at hc)) <;> first | (simp at hc; done) | (rename_i heq; cases heq; done) | (simp_all; done)
  case buildS es' n' z' ps' =>
    cases ho : o.op <;> rw [ho] at hc <;> (try (simp only [compOp, compBin, compCall, Option.map_eq_some_iff, reduceCtorEq, and_false, exists_false] at hc; done))
    case buildSlice t n parts =>
      simp only [compOp] at hc
      split at hc
      case h_2 => cases hc
      rename_i el ht
      split at hc
      case h_2 => cases hc
      rename_i es z hs hz
      split at hc
      case isFalse => cases hc
      rename_i hcond
      simp only [Option.map_eq_some_iff, AOp.buildS.injEq] at hc
      obtain ⟨ps, hps, rfl, rfl, rfl, rfl⟩ := hc
      simp only [Option.map_eq_some_iff, Prod.mk.injEq] at h
      obtain ⟨cs, h1, rfl, rfl⟩ := h
      obtain ⟨cs', hr, h4, hsz⟩ := run_buildS (P := P) hT ht hz hs hcond.2.1 hcond.2.2 hcond.1 hps h1
      obtain ⟨h1, h2⟩ := fin cs' el fun j x hx => by
        obtain ⟨u, q1, q2⟩ := h4.get hx
        exact ⟨u, by simpa using q1, q2⟩
      refine ⟨_, _, .inl ?_, h1, .slc _ _ _ _ _ _ _ _ (by rw [add_map, if_pos rfl]) (Nat.le_refl _) (Nat.le_refl _) (fun _ => rfl) _ _ _ (heap_alloc_new w _) (by omega), h2⟩
      simp [execOp, ho, hr]
    all_goals (simp only [compOp, compBin, compCall] at hc; repeat' (split at hc)) <;> first | (simp at hc; done) | (rename_i heq; cases heq; done) | (simp_all; done)

end
end Go.Proofs.Ytooaiddfokbffaa.E
