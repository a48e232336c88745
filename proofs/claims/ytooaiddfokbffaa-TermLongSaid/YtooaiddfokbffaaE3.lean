/- Reading, writing and building: the model's steps follow the abstract ones. Conditions: none. -/
import Derived.Test.YtooaiddfokbffaaE2
import Derived.Laws.MakeOwn
import Derived.Laws.Slices
set_option linter.unusedVariables false
set_option linter.unusedSimpArgs false
namespace Go.Proofs.Ytooaiddfokbffaa.E
open Go

section
variable {e : Emb} {w : World} {H : AHeap} {P : Program}

theorem LRel.len {xs : List AV} {us : List Value} (h : LRel e w xs us) : us.length = xs.length := h.1

theorem LRel.nil : LRel e w [] [] := ⟨rfl, fun i x u h => by simp at h⟩
theorem LRel.cons {x : AV} {u : Value} {xs : List AV} {us : List Value} (hx : VRel e w x u) (h : LRel e w xs us) : LRel e w (x :: xs) (u :: us) :=
  ⟨by simp [h.1], fun i y v h1 h2 => by
    cases i with
    | zero => simp at h1 h2; exact h1 ▸ h2 ▸ hx
    | succ i => simp at h1 h2; exact h.2 i y v h1 h2⟩
theorem LRel.head {x : AV} {u : Value} {xs : List AV} {us : List Value} (h : LRel e w (x :: xs) (u :: us)) : VRel e w x u := h.2 0 x u rfl rfl
theorem LRel.tail {x : AV} {u : Value} {xs : List AV} {us : List Value} (h : LRel e w (x :: xs) (u :: us)) : LRel e w xs us :=
  ⟨by have := h.1; simpa using this, fun i y v h1 h2 => h.2 (i + 1) y v (by simpa using h1) (by simpa using h2)⟩
theorem LRel.get {xs : List AV} {us : List Value} (h : LRel e w xs us) {i : Nat} {x : AV} (hx : xs[i]? = some x) : ∃ u, us[i]? = some u ∧ VRel e w x u := by
  have hi := (List.getElem?_eq_some_iff.1 hx).1
  have hi' : i < us.length := by rw [h.1]; exact hi
  exact ⟨us[i], List.getElem?_eq_getElem hi', h.2 i x _ hx (List.getElem?_eq_getElem hi')⟩
theorem LRel.of_get {xs : List AV} {us : List Value} (hl : us.length = xs.length) (h : ∀ (i : Nat) (x : AV), xs[i]? = some x → ∃ u, us[i]? = some u ∧ VRel e w x u) : LRel e w xs us :=
  ⟨hl, fun i x u h1 h2 => by
    obtain ⟨u', h3, h4⟩ := h i x h1
    rw [h2] at h3
    injection h3 with h3
    exact h3 ▸ h4⟩
theorem LRel.append {xs ys : List AV} {us vs : List Value} (h : LRel e w xs us) (k : LRel e w ys vs) : LRel e w (xs ++ ys) (us ++ vs) := by
  refine ⟨by simp [h.1, k.1], fun i x u h1 h2 => ?_⟩
  by_cases hi : i < xs.length
  · rw [List.getElem?_append_left hi] at h1
    rw [List.getElem?_append_left (by rw [h.1]; exact hi)] at h2
    exact h.2 i x u h1 h2
  · rw [List.getElem?_append_right (by omega)] at h1
    rw [List.getElem?_append_right (by rw [h.1]; omega), h.1] at h2
    exact k.2 _ x u h1 h2
theorem LRel.drop {xs : List AV} {us : List Value} (h : LRel e w xs us) (n : Nat) : LRel e w (xs.drop n) (us.drop n) :=
  ⟨by simp [h.1], fun i x u h1 h2 => by rw [List.getElem?_drop] at h1 h2; exact h.2 _ x u h1 h2⟩
theorem LRel.take {xs : List AV} {us : List Value} (h : LRel e w xs us) (n : Nat) : LRel e w (xs.take n) (us.take n) :=
  ⟨by simp [h.1], fun i x u h1 h2 => by
    rw [List.getElem?_take] at h1 h2
    by_cases hi : i < n
    · rw [if_pos hi] at h1 h2; exact h.2 _ x u h1 h2
    · rw [if_neg hi] at h1; cases h1⟩
theorem LRel.set {xs : List AV} {us : List Value} (h : LRel e w xs us) (n : Nat) {x : AV} {u : Value} (hx : VRel e w x u) : LRel e w (xs.set n x) (us.set n u) :=
  ⟨by simp [h.1], fun i y v h1 h2 => by
    rw [List.getElem?_set] at h1 h2
    by_cases hi : n = i
    · rw [if_pos hi] at h1 h2
      by_cases hl : n < xs.length
      · rw [if_pos hl] at h1
        rw [if_pos (by rw [h.1]; exact hl)] at h2
        injection h1 with h1
        injection h2 with h2
        exact h1 ▸ h2 ▸ hx
      · rw [if_neg hl] at h1; cases h1
    · rw [if_neg hi] at h1 h2; exact h.2 _ y v h1 h2⟩

theorem VRel.acells {x : AV} {u : Value} (h : VRel e w x u) : LRel e w x.acells u.cells.toList := by
  cases h with
  | v _ hx =>
    have : u.cells = #[u] := by cases u <;> simp_all [notAgg, Value.cells]
    rw [this]
    exact .cons (.v u hx) .nil
  | agg cells cs hn h => exact ⟨by simpa [Value.cells, AV.acells] using hn, fun i x u h1 h2 => h i x u h1 (by simpa [Value.cells] using h2)⟩
  | ptr b off c hc => exact .cons (.ptr b off c hc) .nil
  | slc b off es len lo ex c k h hl hlo hc cs t fr hw hs => exact .cons (.slc b off es len lo ex c k h hl hlo hc cs t fr hw hs) .nil
  | ro len lo ex cells a k us hl hlo hc hn hs hr => exact .cons (.ro len lo ex cells a k us hl hlo hc hn hs hr) .nil
  | rop cells off a us hn hs hr => exact .cons (.rop cells off a us hn hs hr) .nil
  | fn f first captured fs cs hf hc h1 h2 => exact .cons (.fn f first captured fs cs hf hc h1 h2) .nil
  | tup vs cs hn h => exact .cons (.tup vs cs hn h) .nil
  | ifc t x u h => exact .cons (.ifc t x u h) .nil
  | mp b r hm => exact .cons (.mp b r hm) .nil
  | ch b r hm => exact .cons (.ch b r hm) .nil

theorem VRel.one {x : AV} {u : Value} (h : VRel e w x u) (h1 : x.one = true) : u.oneCell' = true := by
  cases h with
  | v _ hx => cases u <;> simp_all [AV.one, Value.oneCell', valOne]
  | _ => simp_all [AV.one, Value.oneCell']

theorem VRel.uv : VRel e w uv undef := .v undef rfl

theorem cval_rel {x : Value} {y : AV} (h : cval x = some y) : VRel e w y x := by
  unfold cval at h
  split at h
  · rename_i cs
    split at h
    · rename_i hc
      injection h with h
      subst h
      refine .agg _ _ (by simp) fun i y u h1 h2 => ?_
      rw [List.getElem?_map] at h1
      have h3 : cs.toList[i]? = some u := by simpa using h2
      rw [h3] at h1
      injection h1 with h1
      subst h1
      refine .v u ?_
      rw [Array.all_eq_true'] at hc
      exact hc u (Array.mem_of_getElem? h2)
    · cases h
  · rename_i f fs cs
    split at h
    · rename_i hc
      injection h with h
      subst h
      exact .fn f [] [] fs cs (by simpa using hc.1) (by simpa using hc.2) (fun i x u h => by simp at h) (fun i x u h => by simp at h)
    · cases h
  · injection h with h
    subst h
    refine .v x ?_
    cases x <;> simp_all [notAgg]

/-- The places of a frame, of the call's own. -/
def TRel (e : Emb) (w : World) (tm : Nat → AV) (a : Act) : Prop := ∀ n, VRel e w (tm n) (a.tmps.getD n undef)

theorem carg_rel {tm : Nat → AV} {a : Act} (h : TRel e w tm a) {x : Operand} {y : AArg} (hx : carg x = some y) : VRel e w (y.ev tm) (a.eval x) := by
  cases x with
  | tmp t => simp only [carg, Option.some.injEq] at hx; subst hx; exact h t
  | const v =>
    simp only [carg, Option.map_eq_some_iff] at hx
    obtain ⟨z, hz, rfl⟩ := hx
    exact cval_rel hz
  | global g => simp only [carg, Option.some.injEq] at hx; subst hx; exact .v _ rfl
  | func f =>
    simp only [carg, Option.some.injEq] at hx
    subst hx
    exact .fn _ [] [] #[] #[] rfl rfl (fun i x u h => by simp at h) (fun i x u h => by simp at h)

theorem cargO_rel {tm : Nat → AV} {a : Act} (h : TRel e w tm a) {x : Option Operand} {y : Option AArg} (hx : cargO x = some y) :
    (x = none ∧ y = none) ∨ ∃ x' y', x = some x' ∧ y = some y' ∧ VRel e w (y'.ev tm) (a.eval x') := by
  cases x with
  | none => simp only [cargO, Option.some.injEq] at hx; exact .inl ⟨rfl, hx.symm⟩
  | some x' =>
    simp only [cargO, Option.map_eq_some_iff] at hx
    obtain ⟨y', h1, rfl⟩ := hx
    exact .inr ⟨x', y', rfl, rfl, carg_rel h h1⟩

theorem TRel.evo {e' : Emb} {w' : World} (h : Evo e w e' w') {tm : Nat → AV} {a : Act} (ht : TRel e w tm a) : TRel e' w' tm a := fun n => (ht n).evo h

/-! ### Reading -/
theorem aload_rel (hH : HRel e H w) {n : Nat} {x : AV} {u : Value} (hx : VRel e w x u) {cs : List AV} (h : aload H n x = some cs) :
    ∃ (a : Addr) (us : List Value), u = .pointer (some a) ∧ us.length = n ∧ (∀ (j : Nat) (v : Value), us[j]? = some v → w.cell? (a.add j) = some v) ∧ LRel e w cs us := by
  cases hx <;> simp only [aload] at h <;> try (cases h; done)
  case ptr b off c hc =>
    split at h
    · rename_i l hl
      split at h
      · rename_i hle
        injection h with h
        subst h
        obtain ⟨_, cs, t, h1, h2⟩ := hH.obj b _ c hl hc
        have hsz : off + n ≤ cs.size := by
          rcases Nat.eq_zero_or_pos (off + n) with h0 | h0
          · omega
          · obtain ⟨u, h3, _⟩ := h2 (off + n - 1) (l[off + n - 1]'(by omega)) (List.getElem?_eq_getElem (by omega))
            have := (Array.getElem?_eq_some_iff.1 h3).1
            omega
        refine ⟨_, (cs.toList.drop off).take n, rfl, by simp; omega, fun j v hj => ?_, ?_⟩
        · rw [List.getElem?_take] at hj
          split at hj
          · rw [List.getElem?_drop] at hj
            rw [addr_add_plain]
            simp only [World.cell?, h1]
            simpa using hj
          · cases hj
        · refine LRel.of_get (by simp; omega) fun i x hx => ?_
          rw [List.getElem?_take] at hx ⊢
          split at hx
          · rename_i hi
            rw [if_pos hi, List.getElem?_drop]
            rw [List.getElem?_drop] at hx
            obtain ⟨u, h3, h4⟩ := h2 _ x hx
            exact ⟨u, by simpa using h3, h4⟩
          · cases hx
      · cases h
    · cases h
  case rop cells off a us hn hs hr =>
    split at h
    · rename_i hle
      injection h with h
      subst h
      have hb : LRel e w cells us := ⟨hn, hr⟩
      refine ⟨_, (us.drop off).take n, rfl, by simp; omega, fun j v hj => ?_, (hb.drop off).take n⟩
      rw [List.getElem?_take] at hj
      split at hj
      · rw [List.getElem?_drop] at hj
        rw [addr_add_add]
        exact (hs _ v hj).1
      · cases hj
    · cases h

theorem run_loadAt_agg {t : TypeId} {d : TypeDesc} (ht : P.underlying t = some d) (hd : aggD d = true) {a : Addr} {us : List Value} (hs : tSize P t = some us.length)
    (h : ∀ (j : Nat) (v : Value), us[j]? = some v → w.cell? (a.add j) = some v) : (Instr.loadAt t (.pointer (some a))).run P w = .ok (.agg us.toArray) w := by
  have hagg : (isAgg t).run P w = .ok true w := by
    simp only [isAgg, Sem.run_bind, run_underlying ht, Result.andThen_ok]
    cases d <;> first | rfl | (simp [aggD] at hd)
  simp only [tSize, Option.map_eq_some_iff] at hs
  obtain ⟨i, hi, hsz⟩ := hs
  simp only [Instr.loadAt, Instr.sureAddr, loadVar, Sem.run_bind, Sem.run_pure, Result.andThen_ok, hagg, if_true, sizeOf, typeInfo, run_program, hi, hsz]
  rw [run_loadCells_list w a us h]
  rfl

theorem run_loadAt_one {t : TypeId} {d : TypeDesc} (ht : P.underlying t = some d) (hd : aggD d = false) {a : Addr} {u : Value} (h : w.cell? a = some u) :
    (Instr.loadAt t (.pointer (some a))).run P w = .ok u w := by
  have hagg : (isAgg t).run P w = .ok false w := by
    simp only [isAgg, Sem.run_bind, run_underlying ht, Result.andThen_ok]
    cases d <;> first | rfl | (simp [aggD] at hd)
  simp [Instr.loadAt, Instr.sureAddr, loadVar, hagg, h]

theorem apack_rel {agg : Bool} {cs : List AV} {us : List Value} (h : LRel e w cs us) {x : AV} (hx : apack agg cs = some x) :
    (agg = true ∧ VRel e w x (.agg us.toArray)) ∨ (agg = false ∧ ∃ u, us = [u] ∧ VRel e w x u) := by
  unfold apack at hx
  split at hx
  · rename_i ha
    injection hx with hx
    subst hx
    exact .inl ⟨ha, .agg _ _ (by simpa using h.1) fun i x u h1 h2 => h.2 i x u h1 (by simpa using h2)⟩
  · rename_i ha
    split at hx
    · rename_i y
      injection hx with hx
      subst hx
      have hl := h.1
      obtain ⟨u, rfl⟩ := List.length_eq_one_iff.1 (by simpa using hl)
      exact .inr ⟨by simpa using ha, u, rfl, h.head⟩
    · cases hx

/-! ### Writing -/
theorem AHeap.set_self {b : Nat} {o : AObj} (h : H.get b = some o) : H.set b o = H := by
  unfold AHeap.set
  cases H with
  | mk g n =>
    congr
    funext x
    split
    · rename_i hx; subst hx; exact h.symm
    · rfl
theorem AHeap.set_set (b : Nat) (o o' : AObj) : (H.set b o).set b o' = H.set b o' := by
  unfold AHeap.set
  congr
  funext x
  dsimp only
  split <;> rfl
@[simp] theorem AHeap.get_set_same (b : Nat) (o : AObj) : (H.set b o).get b = some o := by simp [AHeap.set]
@[simp] theorem AHeap.next_set (b : Nat) (o : AObj) : (H.set b o).next = H.next := rfl
@[simp] theorem AHeap.next_new (o : AObj) : (H.new o).next = H.next + 1 := rfl

theorem setL_length (l : List AV) (i : Nat) (xs : List AV) : (setL l i xs).length = l.length := by
  induction xs generalizing l i with
  | nil => rfl
  | cons x xs ih => simp [setL, ih]

theorem storeCells_rel {b c off : Nat} : ∀ (xs : List AV) (us : List Value) (i : Nat) (l : List AV) (w : World) (H : AHeap), HRel e H w → H.get b = some (.cells l) → e.map b = some c →
    LRel e w xs us → xs.all AV.one = true → off + i + xs.length ≤ l.length →
    ∃ w', (storeCells ⟨c, off, none⟩ us i).run P w = .ok () w' ∧ HRel e (H.set b (.cells (setL l (off + i) xs))) w' ∧ Evo e w e w' := by
  intro xs
  induction xs with
  | nil =>
    intro us i l w H hH hl hc hr _ _
    have : us = [] := List.eq_nil_of_length_eq_zero hr.1
    subst this
    exact ⟨w, by simp [storeCells], by rw [show setL l (off + i) [] = l from rfl, AHeap.set_self hl]; exact hH, Evo.refl e w⟩
  | cons x xs ih =>
    intro us i l w H hH hl hc hr ho hle
    cases us with
    | nil => exact absurd hr.1 (by simp)
    | cons u us =>
      simp only [List.all_cons, Bool.and_eq_true] at ho
      simp only [List.length_cons] at hle
      have hx := hr.head
      have h1 := HRel.setCell hH hl hc (off + i) x u hx (by omega)
      have hv := Evo.setCell (w := w) b hc (hH.obj b _ c hl hc).1 (off + i) u
      obtain ⟨w', hw', hH', hv'⟩ := ih us (i + 1) (l.set (off + i) x) _ _ h1 (by simp) hc (hr.tail.evo hv) ho.2 (by simp; omega)
      refine ⟨w', ?_, ?_, hv.trans hv'⟩
      · obtain ⟨_, cs, t, h2, h3⟩ := hH.obj b _ c hl hc
        obtain ⟨u0, h4, _⟩ := h3 (off + i) (l[off + i]'(by omega)) (List.getElem?_eq_getElem (by omega))
        have hcell : w.cell? ⟨c, off + i, none⟩ = some u0 := by simp only [World.cell?, h2]; simpa using h4
        have hfr : w.frozen? ⟨c, off + i, none⟩ = false := by simp [World.frozen?, h2]
        simp only [storeCells, Sem.run_bind, addr_add_plain, run_store P w _ u .plain (hx.one ho.1), hcell, hfr, Result.andThen_ok]
        simpa using hw'
      · rw [AHeap.set_set] at hH'
        rw [show off + (i + 1) = off + i + 1 by omega] at hH'
        exact hH'

theorem astore_rel (hH : HRel e H w) {t : TypeId} {n : Nat} (hs : tSize P t = some n) {a x : AV} {ua ux : Value} (ha : VRel e w a ua) (hx : VRel e w x ux) {H' : AHeap} (h : astore H n a x = some H') :
    ∃ w', (Instr.storeAt t ua ux).run P w = .ok () w' ∧ HRel e H' w' ∧ Evo e w e w' := by
  cases ha <;> simp only [astore] at h <;> try (cases h; done)
  case ptr b off c hc =>
    split at h
    · rename_i l hl
      split at h
      · rename_i hle
        injection h with h
        subst h
        have hxc := hx.acells
        obtain ⟨w', h1, h2, h3⟩ := storeCells_rel (P := P) (off := off) _ _ 0 l w H hH hl hc hxc hle.2.2 (by omega)
        refine ⟨w', ?_, by simpa using h2, h3⟩
        simp only [tSize, Option.map_eq_some_iff] at hs
        obtain ⟨i, hi, hsz⟩ := hs
        have hsize : ux.cells.size = n := by rw [← Array.length_toList, hxc.1, hle.1]
        simp only [Instr.storeAt, Instr.sureAddr, storeVar, Sem.run_bind, Sem.run_pure, Result.andThen_ok, sizeOf, typeInfo, run_program, hi, hsz, hsize, ne_eq, not_true, if_false]
        exact h1
      · cases h
    · cases h

/-! ### Building -/
theorem fold_set_rel : ∀ (xs : List AV) (us : List Value) (off k : Nat) (l : List AV) (cs : Array Value), LRel e w xs us → LRel e w l cs.toList →
    LRel e w (setL l (off + k) xs) ((us.zipIdx k).foldl (fun cs p => cs.setIfInBounds (off + p.2) p.1) cs).toList := by
  intro xs
  induction xs with
  | nil =>
    intro us off k l cs h hl
    have : us = [] := List.eq_nil_of_length_eq_zero h.1
    subst this
    exact hl
  | cons x xs ih =>
    intro us off k l cs h hl
    cases us with
    | nil => exact absurd h.1 (by simp)
    | cons u us =>
      simp only [List.zipIdx_cons, List.foldl_cons, setL]
      rw [show off + k + 1 = off + (k + 1) by omega]
      refine ih us off (k + 1) _ _ h.tail ?_
      rw [Array.toList_setIfInBounds]
      exact hl.set _ h.head

theorem fill_rel (place : Nat → Option (Nat × Nat)) : ∀ (ps : List (Nat × Nat × AV)) (vs : List (Nat × Value)) (l : List AV) (cs : Array Value), LRel e w l cs.toList →
    vs.length = ps.length → (∀ (i : Nat) (p : Nat × Nat × AV) (v : Nat × Value), ps[i]? = some p → vs[i]? = some v → place v.1 = some (p.1, p.2.1) ∧ VRel e w p.2.2 v.2) →
    ∀ l', afill l ps = some l' → ∃ cs', Instr.fill place cs vs = some cs' ∧ LRel e w l' cs'.toList := by
  intro ps
  induction ps with
  | nil =>
    intro vs l cs hl hn _ l' h
    have : vs = [] := List.eq_nil_of_length_eq_zero hn
    subst this
    simp only [afill, Option.some.injEq] at h
    subst h
    exact ⟨cs, rfl, hl⟩
  | cons p ps ih =>
    intro vs l cs hl hn hp l' h
    cases vs with
    | nil => exact absurd hn (by simp)
    | cons v vs =>
      obtain ⟨off, n, x⟩ := p
      obtain ⟨i, u⟩ := v
      obtain ⟨h1, h2⟩ := hp 0 _ _ rfl rfl
      simp only [afill] at h
      split at h
      · rename_i hle
        have hc := h2.acells
        have hsz : u.cells.size = n := by rw [← Array.length_toList, hc.1]; exact hle.1
        have hls : cs.size = l.length := by rw [← Array.length_toList]; exact hl.1
        have hf := fold_set_rel _ _ off 0 _ _ hc hl
        rw [Nat.add_zero] at hf
        obtain ⟨cs', h3, h4⟩ := ih vs _ (u.cells.zipIdx.foldl (fun cs p => cs.setIfInBounds (off + p.2) p.1) cs) (by
          rw [← Array.foldl_toList, Array.toList_zipIdx]; exact hf) (by simpa using hn) (fun j p v hj hv => hp (j + 1) p v (by simpa using hj) (by simpa using hv)) l' h
        refine ⟨cs', ?_, h4⟩
        simp only [Instr.fill, h1]
        rw [if_neg (by simp [hsz]; omega)]
        exact h3
      · cases h

end
end Go.Proofs.Ytooaiddfokbffaa.E
