/- The model's operation follows the abstract one: all operations that are taken, together. Conditions: none. -/
import Derived.Test.YtooaiddfokbffaaE11
set_option linter.unusedVariables false
set_option linter.unusedSimpArgs false
namespace Go.Proofs.Ytooaiddfokbffaa.E
open Go

section
variable {e : Emb} {w : World} {H : AHeap} {P : Program} {tm : Nat → AV} {a : Act}

theorem go_build (hH : HRel e H w) (hT : TRel e w tm a) {t : TypeId} {z : List AV} (hz : tZero P t = some z) {parts : Array (Nat × Operand)} {f : Nat → Option (Nat × Nat)} {ps : List (Nat × Nat × AArg)}
    (hp : compParts f parts.toList = some ps)
    (hd : (∃ fs, P.underlying t = some (.struct fs) ∧ fs.all (fun f => (P.info? f.type).isSome) = true ∧ f = fieldPl P fs) ∨ (∃ n el m, P.underlying t = some (.array n el) ∧ tSize P el = some m ∧ f = fun i => some (i * m, m)))
    {cs : List AV} (h : afill z (ps.map fun p => (p.1, p.2.1, p.2.2.ev tm)) = some cs) : Goes P (Instr.build t (parts.map fun (i, x) => (i, a.eval x))) e w (.agg cs) H := by
  obtain ⟨i, zv, hi, hzv, hzr⟩ := tZero_rel hz
  obtain ⟨h1, h2⟩ := compParts_rel hT hp
  have hparts : (parts.map fun (x : Nat × Operand) => (x.1, a.eval x.2)).toList = parts.toList.map fun q => (q.1, a.eval q.2) := by simp
  have fin : ∀ (place : Nat → Option (Nat × Nat)), (∀ i v, f i = some v → place i = some v) → ∃ cs', Instr.fill place zv.cells (parts.map fun (x : Nat × Operand) => (x.1, a.eval x.2)).toList = some cs' ∧ VRel e w (.agg cs) (.agg cs') := by
    intro place hpl
    rw [hparts]
    obtain ⟨cs', h3, h4⟩ := fill_rel place _ (parts.toList.map fun q => (q.1, a.eval q.2)) z zv.cells (hzr e w) (by simp [h1]) (fun j p v hp hv => by
      obtain ⟨q1, q2⟩ := h2 j p v hp hv
      exact ⟨hpl _ _ q1, q2⟩) cs h
    exact ⟨cs', h3, .agg _ _ (by have := h4.1; simpa using this) fun j x u q1 q2 => h4.2 j x u q1 (by simpa using q2)⟩
  rcases hd with ⟨fs, ht, hall, rfl⟩ | ⟨n, el, m, ht, hm, rfl⟩
  · have hmap : ∀ (l : List Field), (∀ f ∈ l, (P.info? f.type).isSome = true) → (l.mapM fun f => (do pure (f.offset, ← sizeOf f.type) : Sem (Nat × Nat))).run P w = .ok (l.map fun f => (f.offset, ((P.info? f.type).map (·.size)).getD 0)) w := by
      intro l
      induction l with
      | nil => intro _; rfl
      | cons x l ih =>
        intro hl
        obtain ⟨j, hj⟩ := Option.isSome_iff_exists.1 (hl x (List.mem_cons_self ..))
        have := ih fun f hf => hl f (List.mem_cons_of_mem _ hf)
        simp only [List.mapM_cons, Sem.run_bind, sizeOf, typeInfo, run_program, hj, Result.andThen_ok, Sem.run_pure, List.map_cons, Option.map_some, Option.getD_some] at this ⊢
        rw [this]
        rfl
    have hmapA : (fs.mapM fun f => (do pure (f.offset, ← sizeOf f.type) : Sem (Nat × Nat))).run P w = .ok (fs.map fun f => (f.offset, ((P.info? f.type).map (·.size)).getD 0)) w := by
      have := hmap fs.toList fun f hf => by rw [Array.all_eq_true'] at hall; exact hall f (by simpa using hf)
      rw [Array.mapM_eq_mapM_toList]
      simp only [Sem.run_map, this, Result.andThen_ok]
      rw [← Array.toList_map, Array.toArray_toList]
    obtain ⟨cs', h3, h4⟩ := fin (fun i => (fs.map fun f => (f.offset, ((P.info? f.type).map (·.size)).getD 0))[i]?) (fun i v hv => by
      unfold fieldPl at hv
      split at hv
      · rename_i fd hfd
        simp only [tSize, Option.map_eq_some_iff] at hv
        obtain ⟨s, ⟨j, hj, rfl⟩, rfl⟩ := hv
        simp [hfd, hj]
      · cases hv)
    refine .stay hH (u := .agg cs') ?_ h4
    simp only [Instr.build, Sem.run_bind, zeroValue, typeInfo, run_program, hi, hzv, Result.andThen_ok, Sem.run_pure, run_underlying ht, hmapA, h3]
  · obtain ⟨cs', h3, h4⟩ := fin (fun i => some (i * m, m)) (fun i v hv => hv)
    refine .stay hH (u := .agg cs') ?_ h4
    simp only [tSize, Option.map_eq_some_iff] at hm
    obtain ⟨j, hj, hjs⟩ := hm
    simp only [Instr.build, Sem.run_bind, zeroValue, typeInfo, run_program, hi, hzv, Result.andThen_ok, Sem.run_pure, run_underlying ht, sizeOf, hj, hjs, h3]

theorem afill_length : ∀ (ps : List (Nat × Nat × AV)) (l l' : List AV), afill l ps = some l' → l'.length = l.length := by
  intro ps
  induction ps with
  | nil => intro l l' h; simp only [afill, Option.some.injEq] at h; rw [h]
  | cons p ps ih =>
    intro l l' h
    obtain ⟨o, m, x⟩ := p
    simp only [afill] at h
    split at h
    · rw [ih _ _ h, setL_length]
    · cases h

theorem run_buildS (hT : TRel e w tm a) {t el : TypeId} (ht : P.underlying t = some (.slice el)) {z : List AV} (hz : tZero P el = some z) {es n : Nat} (hs : tSize P el = some es) (hzl : z.length = es) (h0 : 0 < es)
    (hlim : n * es ≤ 16777216) {parts : Array (Nat × Operand)} {ps : List (Nat × Nat × AArg)} (hp : compParts (fun i => some (i * es, es)) parts.toList = some ps)
    {cs : List AV} (h : afill (List.replicate n z).flatten (ps.map fun p => (p.1, p.2.1, p.2.2.ev tm)) = some cs) :
    ∃ cs' : Array Value, (Instr.buildSlice t n (parts.map fun (i, x) => (i, a.eval x))).run P w = .ok (.slice (some ⟨w.heap.size, 0, none⟩) n n) (w.alloc (.cells cs' el)) ∧ LRel e w cs cs'.toList ∧ cs'.size = n * es := by
  obtain ⟨i, zv, hi, hzv, hzr⟩ := tZero_rel hz
  obtain ⟨h1, h2⟩ := compParts_rel hT hp
  have hparts : (parts.map fun (x : Nat × Operand) => (x.1, a.eval x.2)).toList = parts.toList.map fun q => (q.1, a.eval q.2) := by simp
  simp only [tSize, Option.map_eq_some_iff] at hs
  obtain ⟨j, hj, hjs⟩ := hs
  have hji : j = i := by rw [hi] at hj; injection hj with hj; exact hj.symm
  subst hji
  have hm := madeCells_rel (hzr e w) n (by omega)
  rw [hzl] at hm
  obtain ⟨cs', h3, h4⟩ := fill_rel (fun i => some (i * es, es)) _ (parts.toList.map fun q => (q.1, a.eval q.2)) _ (madeCells zv.cells (n * es)) hm (by simp [h1]) (fun j p v hp hv => h2 j p v hp hv) cs h
  refine ⟨cs', ?_, h4, ?_⟩
  · have hnl : ¬ (16777216 < n * es) := by omega
    by_cases hn0 : n * es = 0
    · have hn : n = 0 := by rcases Nat.mul_eq_zero.1 hn0 with h | h <;> omega
      subst hn
      simp only [madeCells, hn0, Array.range_zero', Array.map_empty] at h3
      simp [Instr.buildSlice, run_underlying ht, sizeOf, typeInfo, hi, hjs, hparts, Array.range_zero', h3, newRow]
    · simp [Instr.buildSlice, run_underlying ht, sizeOf, typeInfo, zeroValue, hi, hjs, hzv, hn0, hnl, hparts]
      simp only [madeCells] at h3
      rw [h3]
      simp [newRow]
  · have hl := h4.1
    have := afill_length _ _ _ h
    simp [hzl] at this
    simp at hl
    omega

theorem go_buildS (hH : HRel e H w) (hT : TRel e w tm a) {t el : TypeId} (ht : P.underlying t = some (.slice el)) {z : List AV} (hz : tZero P el = some z) {es n : Nat} (hs : tSize P el = some es) (hzl : z.length = es) (h0 : 0 < es)
    (hlim : n * es ≤ 16777216) {parts : Array (Nat × Operand)} {ps : List (Nat × Nat × AArg)} (hp : compParts (fun i => some (i * es, es)) parts.toList = some ps)
    {cs : List AV} (h : afill (List.replicate n z).flatten (ps.map fun p => (p.1, p.2.1, p.2.2.ev tm)) = some cs) :
    Goes P (Instr.buildSlice t n (parts.map fun (i, x) => (i, a.eval x))) e w (.slc H.next 0 es n n true) (H.new (.cells cs)) := by
  obtain ⟨cs', hr, h4, hsz⟩ := run_buildS (P := P) hT ht hz hs hzl h0 hlim hp h
  refine ⟨_, _, e.push w.heap.size, hr, hH.allocCells _ _ _ fun k x hx => ?_, ?_, Evo.alloc hH _⟩
  · obtain ⟨u, q1, q2⟩ := h4.get hx
    exact ⟨u, by simpa using q1, q2⟩
  · rw [← hH.next]
    exact .slc _ _ _ _ _ _ _ _ (by rw [push_map, if_pos rfl]) (Nat.le_refl _) (Nat.le_refl _) (fun _ => rfl) _ _ _ (heap_alloc_new w _) (by omega)

end
end Go.Proofs.Ytooaiddfokbffaa.E
