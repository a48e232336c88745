/- make, append, lengths. Conditions: none. -/
import Derived.Test.YtooaiddfokbffaaE6
set_option linter.unusedVariables false
set_option linter.unusedSimpArgs false
namespace Go.Proofs.Ytooaiddfokbffaa.E
open Go

section
variable {e : Emb} {w : World} {H : AHeap} {P : Program}

theorem flatten_replicate_get {α : Type} (z : List α) : ∀ (n i : Nat), i < n * z.length → (List.replicate n z).flatten[i]? = z[i % z.length]? := by
  intro n
  induction n with
  | zero => intro i hi; simp at hi
  | succ n ih =>
    intro i hi
    rw [List.replicate_succ, List.flatten_cons]
    by_cases h : i < z.length
    · rw [List.getElem?_append_left h, Nat.mod_eq_of_lt h]
    · rw [List.getElem?_append_right (by omega), ih _ (by rw [Nat.succ_mul] at hi; omega)]
      congr 1
      rw [← Nat.mod_eq_sub_mod (by omega)]

theorem madeCells_rel {z : List AV} {v : Array Value} (h : LRel e w z v.toList) (n : Nat) (hz : 0 < z.length) : LRel e w (List.replicate n z).flatten (madeCells v (n * z.length)).toList := by
  have hv : v.size = z.length := by rw [← Array.length_toList]; exact h.1
  refine ⟨by simp [madeCells], fun i x u h1 h2 => ?_⟩
  have hi : i < n * z.length := by
    have := (List.getElem?_eq_some_iff.1 h1).1
    simpa using this
  rw [flatten_replicate_get z n i hi] at h1
  have hm : i % z.length < v.size := by rw [hv]; exact Nat.mod_lt _ hz
  have h3 : v.toList[i % z.length]? = some u := by
    simp only [madeCells, Array.toList_map, List.getElem?_map, Array.toList_range] at h2
    rw [List.getElem?_range hi] at h2
    simp only [Option.map_some, Option.some.injEq, hv] at h2
    rw [← h2]
    simp [hm]
  exact h.2 _ x u h1 h3

theorem go_mks (hH : HRel e H w) {t el : TypeId} (ht : P.underlying t = some (.slice el)) {es : Nat} {z : List AV} (hz : tZero P el = some z) {i : TypeInfo} (hi : P.info? el = some i) (hs : i.size = z.length)
    {x y : AV} {ux uy : Value} (hx : VRel e w x ux) (hy : VRel e w y uy) {r : AV} {H' : AHeap} (h : amake z i.bytes H x y = some (r, H')) : Goes P (Instr.makeSlice t ux uy) e w r H' := by
  obtain ⟨i', zv, hi', hzv, hr⟩ := tZero_rel hz
  have : i' = i := by rw [hi] at hi'; injection hi' with hi'; exact hi'.symm
  subst this
  unfold amake at h
  split at h
  · rename_i kl l kc c
    split at h
    · rename_i hle
      simp only [Option.some.injEq, Prod.mk.injEq] at h
      obtain ⟨rfl, rfl⟩ := h
      cases hx
      cases hy
      obtain ⟨h1, h2, h3, h4, h5⟩ := hle
      refine ⟨_, _, e.push w.heap.size, run_make w t el i' zv ht hi hzv kl kc l c h1 h2 h3 h4, hH.allocCells _ _ _ fun j a ha => ?_, ?_, Evo.alloc hH _⟩
      · have hm := madeCells_rel (hr e w) c.toNat h5
        rw [hs]
        obtain ⟨u, h6, h7⟩ := hm.get ha
        exact ⟨u, by simpa using h6, h7⟩
      · rw [← hH.next]
        exact .slc _ _ _ _ _ _ _ _ (by rw [push_map, if_pos rfl]) (by omega) (Nat.le_refl _) (fun _ => rfl) _ _ _ (heap_alloc_new w _) (by simp [size_madeCells, hs])
    · cases h
  · cases h

/-! ### append -/
theorem asrc_rel (hH : HRel e H w) {es : Nat} {x : AV} {u : Value} (hx : VRel e w x u) {n : Nat} {new : List AV} (h : asrc H es x = some (n, new)) :
    ∃ (us : List Value), LRel e w new us ∧ us.length = n * es ∧ ((u = .slice none 0 0 ∧ n = 0) ∨ ∃ a k, u = .slice (some a) n k ∧ ∀ (j : Nat) (v : Value), us[j]? = some v → w.cell? (a.add j) = some v) := by
  cases hx <;> simp only [asrc] at h <;> (try (cases h; done))
  case v hv =>
    split at h
    · rename_i heq
      injection heq with heq
      simp only [Option.some.injEq, Prod.mk.injEq] at h
      obtain ⟨rfl, rfl⟩ := h
      exact ⟨[], LRel.nil, by simp, .inl ⟨heq, rfl⟩⟩
    all_goals (first | (cases h; done) | (rename_i heq; cases heq; done) | skip)
    all_goals simp_all
  case slc b off es' len lo ex c k hm hl hlo hc cs t fr hw hsz =>
    split at h
    · rename_i l hl'
      split at h
      · rename_i hle
        simp only [Option.some.injEq, Prod.mk.injEq] at h
        obtain ⟨rfl, rfl⟩ := h
        have hload : aload H (len * es) (.ptr b off) = some ((l.drop off).take (len * es)) := by simp [aload, hl', hle.2]
        obtain ⟨a', us, h1, h2, h3, h4⟩ := aload_rel hH (VRel.ptr b off c hm) hload
        injection h1 with h1
        injection h1 with h1
        subst h1
        exact ⟨us, h4, h2, .inr ⟨_, k, rfl, h3⟩⟩
      · cases h
    · cases h
  case ro len lo ex cells a k us hl hlo hc hn hs hr =>
    split at h
    · rename_i hle
      simp only [Option.some.injEq, Prod.mk.injEq] at h
      obtain ⟨rfl, rfl⟩ := h
      refine ⟨us.take (len * es), LRel.take ⟨hn, hr⟩ _, by simp; omega, .inr ⟨a, k, rfl, fun j v hj => ?_⟩⟩
      rw [List.getElem?_take] at hj
      split at hj
      · exact (hs j v hj).1
      · cases hj
    · cases h

theorem run_append_in (t ty el : TypeId) (i : TypeInfo) (ht : P.underlying t = some (.slice el)) (hi : P.info? el = some i) (s : Addr) (sLen sCap : Nat) (a : Addr) (m c : Nat) (news : List Value)
    (hl : news.length = m * i.size) (hnews : ∀ (j : Nat) (u : Value), news[j]? = some u → w.cell? (a.add j) = some u) (hroom : sLen + m ≤ sCap) :
    (Builtin.append_ #[t, t] ty #[.slice (some s) sLen sCap, .slice (some a) m c]).run P w =
      ((storeCells (s.add (sLen * i.size)) news).run P w).andThen fun _ w' => .ok (.slice (some s) (sLen + m) sCap) w' := by
  have hf := run_firstCells_some (P := P) w i.size m a m c news hl hnews
  simp [Builtin.append_, run_underlying ht, sizeOf, typeInfo, hi, Builtin.lenOf, hroom, hf]

theorem run_append_none (t ty el : TypeId) (i : TypeInfo) (ht : P.underlying t = some (.slice el)) (hi : P.info? el = some i) (s : Option Addr) (sLen sCap : Nat) (h : sLen ≤ sCap) :
    (Builtin.append_ #[t, t] ty #[.slice s sLen sCap, .slice none 0 0]).run P w = .ok (.slice s sLen sCap) w := by
  cases s <;> simp [Builtin.append_, run_underlying ht, sizeOf, typeInfo, hi, Builtin.lenOf, Builtin.firstCells, h, storeCells]

theorem run_append_zero (t ty el : TypeId) (i : TypeInfo) (ht : P.underlying t = some (.slice el)) (hi : P.info? el = some i) (s : Option Addr) (sLen sCap : Nat) (h : sLen ≤ sCap) (a : Addr) (c : Nat) :
    (Builtin.append_ #[t, t] ty #[.slice s sLen sCap, .slice (some a) 0 c]).run P w = .ok (.slice s sLen sCap) w := by
  cases s <;> simp [Builtin.append_, run_underlying ht, sizeOf, typeInfo, hi, Builtin.lenOf, Builtin.firstCells, h, storeCells, loadCells, loadCellsFrom]

theorem kill_map (e : Emb) (b x : Nat) : (e.kill b).map x = e.map x := rfl
theorem kill_live (e : Emb) (b x : Nat) : (e.kill b).live x = if x = b then false else e.live x := rfl
theorem kill_get (H : AHeap) (b x : Nat) : (H.kill b).get x = if x = b then none else H.get x := rfl

/-- A block is let go. -/
theorem Evo.kill (e : Emb) (w : World) (b : Nat) : Evo e w (e.kill b) w where
  un := fun _ _ h => h
  os := rfl
  output := rfl
  tape := rfl
  size := Nat.le_refl _
  frame := fun _ _ _ => rfl
  next := Nat.le_refl _
  old := fun _ _ h => h
  hits := fun c ⟨x, hx, hl⟩ => by
    rw [kill_live] at hl
    by_cases h : x = b
    · rw [if_pos h] at hl; cases hl
    · rw [if_neg h] at hl; exact .inr ⟨x, hx, hl⟩
  sizes := fun c cs t fr h => ⟨cs, t, fr, h, rfl⟩

theorem HRel.kill (hH : HRel e H w) (b : Nat) : HRel (e.kill b) (H.kill b) w := by
  refine ⟨hH.next, hH.fresh, fun x y c hx hy lx ly => ?_, fun x c hx lx => ?_, fun x o c hq hx => ?_, fun x o hx => ?_, hH.lt⟩
  · rw [kill_live] at lx ly
    by_cases h1 : x = b
    · rw [if_pos h1] at lx; cases lx
    · by_cases h2 : y = b
      · rw [if_pos h2] at ly; cases ly
      · rw [if_neg h1] at lx
        rw [if_neg h2] at ly
        exact hH.inj x y c hx hy lx ly
  · rw [kill_live] at lx
    by_cases h1 : x = b
    · rw [if_pos h1] at lx; cases lx
    · rw [if_neg h1] at lx
      rw [kill_get, if_neg h1]
      exact hH.dom x c hx lx
  · rw [kill_get] at hq
    by_cases h1 : x = b
    · rw [if_pos h1] at hq; cases hq
    · rw [if_neg h1] at hq
      obtain ⟨h2, h3⟩ := hH.obj x o c hq hx
      exact ⟨by rw [kill_live, if_neg h1]; exact h2, h3.evo (Evo.kill e w b) rfl⟩
  · rw [kill_get] at hx
    by_cases h1 : x = b
    · rw [if_pos h1] at hx; cases hx
    · rw [if_neg h1] at hx; exact hH.get x o hx

theorem kp_map (e : Emb) (b c x : Nat) : ((e.kill b).push c).map x = if x = e.next then some c else e.map x := rfl
theorem kp_live (e : Emb) (b c x : Nat) : ((e.kill b).push c).live x = if x = e.next then true else if x = b then false else e.live x := rfl
theorem kn_get (H : AHeap) (b : Nat) (o : AObj) (x : Nat) : ((H.kill b).new o).get x = if x = H.next then some o else if x = b then none else H.get x := rfl

/-- A block of the call's own goes on under a new number, the old one let go. -/
theorem HRel.rename (hH : HRel e H w) {b c : Nat} {ob : AObj} (hb : H.get b = some ob) (hc : e.map b = some c) {o : AObj} (ho : ObjRel e w c o) :
    HRel ((e.kill b).push c) ((H.kill b).new o) w ∧ Evo e w ((e.kill b).push c) w := by
  have hn := hH.next
  have hlb := (hH.obj b ob c hb hc).1
  have hv : Evo e w ((e.kill b).push c) w := by
    refine ⟨⟨rfl, rfl, rfl, Nat.le_refl _, fun _ _ _ => rfl, Nat.le_succ _, fun x c' hx => ?_, fun c' ⟨x, hx, hl⟩ => ?_, fun c cs t fr h => ⟨cs, t, fr, h, rfl⟩⟩, fun x hx hm => by rw [kp_map, if_neg (by omega)]; exact hm⟩
    · rw [kp_map, if_neg (by have := hH.mlt hx; omega)]
      exact hx
    · rw [kp_map] at hx
      rw [kp_live] at hl
      by_cases h1 : x = e.next
      · rw [if_pos h1] at hx
        injection hx with hx
        exact .inr ⟨b, hx ▸ hc, hlb⟩
      · rw [if_neg h1] at hx hl
        by_cases h2 : x = b
        · rw [if_pos h2] at hl; cases hl
        · rw [if_neg h2] at hl; exact .inr ⟨x, hx, hl⟩
  refine ⟨?_, hv⟩
  have hne : ∀ x, x ≠ b → e.live x = true → e.map x ≠ some c := fun x hx hl hxc => hx (hH.inj x b c hxc hc hl hlb)
  refine ⟨by simp [Emb.push, AHeap.new, Emb.kill, AHeap.kill, hH.next], fun x hx => ?_, fun x y c' hx hy lx ly => ?_, fun x c' hx lx => ?_, fun x o' c' hq hx => ?_, fun x o' hx => ?_, fun x c' hx => ?_⟩
  · have hx' : H.next + 1 ≤ x := hx
    rw [kp_map, if_neg (by omega)]
    exact hH.fresh x (by omega)
  · rw [kp_map] at hx hy
    rw [kp_live] at lx ly
    by_cases h1 : x = e.next <;> by_cases h2 : y = e.next
    · omega
    · rw [if_pos h1] at hx
      rw [if_neg h2] at hy ly
      by_cases h3 : y = b
      · rw [if_pos h3] at ly; cases ly
      · rw [if_neg h3] at ly
        injection hx with hx
        exact absurd (hx ▸ hy) (hne y h3 ly)
    · rw [if_pos h2] at hy
      rw [if_neg h1] at hx lx
      by_cases h3 : x = b
      · rw [if_pos h3] at lx; cases lx
      · rw [if_neg h3] at lx
        injection hy with hy
        exact absurd (hy ▸ hx) (hne x h3 lx)
    · rw [if_neg h1] at hx lx
      rw [if_neg h2] at hy ly
      by_cases h3 : x = b
      · rw [if_pos h3] at lx; cases lx
      · by_cases h4 : y = b
        · rw [if_pos h4] at ly; cases ly
        · rw [if_neg h3] at lx
          rw [if_neg h4] at ly
          exact hH.inj x y c' hx hy lx ly
  · rw [kp_map] at hx
    rw [kp_live] at lx
    rw [kn_get]
    by_cases h1 : x = e.next
    · rw [if_pos (by omega)]; exact ⟨o, rfl⟩
    · rw [if_neg h1] at hx lx
      rw [if_neg (by omega)]
      by_cases h2 : x = b
      · rw [if_pos h2] at lx; cases lx
      · rw [if_neg h2] at lx ⊢
        exact hH.dom x c' hx lx
  · rw [kn_get] at hq
    rw [kp_map] at hx
    rw [kp_live]
    by_cases h1 : x = H.next
    · rw [if_pos h1] at hq
      rw [if_pos (by omega)] at hx
      injection hq with hq
      injection hx with hx
      subst hq hx
      exact ⟨by rw [if_pos (by omega)], ho.evo hv rfl⟩
    · rw [if_neg h1] at hq
      rw [if_neg (by omega)] at hx
      by_cases h2 : x = b
      · rw [if_pos h2] at hq; cases hq
      · rw [if_neg h2] at hq
        obtain ⟨h3, h4⟩ := hH.obj x o' c' hq hx
        exact ⟨by rw [if_neg (by omega), if_neg h2]; exact h3, h4.evo hv rfl⟩
  · show x < H.next + 1
    rw [kn_get] at hx
    by_cases h1 : x = H.next
    · omega
    · rw [if_neg h1] at hx
      by_cases h2 : x = b
      · rw [if_pos h2] at hx; cases hx
      · rw [if_neg h2] at hx; have := hH.get x o' hx; omega
  · rw [kp_map] at hx
    by_cases h1 : x = e.next
    · rw [if_pos h1] at hx; injection hx with hx; exact hx ▸ hH.lt b c hc
    · rw [if_neg h1] at hx; exact hH.lt x c' hx

end
end Go.Proofs.Ytooaiddfokbffaa.E
