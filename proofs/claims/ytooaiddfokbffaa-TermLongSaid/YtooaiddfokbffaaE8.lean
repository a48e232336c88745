/- append, of whatever the abstract one takes. Conditions: none. -/
import Derived.Test.YtooaiddfokbffaaE7
set_option linter.unusedVariables false
set_option linter.unusedSimpArgs false
namespace Go.Proofs.Ytooaiddfokbffaa.E
open Go

section
variable {e : Emb} {w : World} {H : AHeap} {P : Program}

theorem setRow_rel (hH : HRel e H w) {b c : Nat} {l : List AV} (hb : H.get b = some (.cells l)) (hc : e.map b = some c) {cs cs' : Array Value} {t : TypeId} (hw : w.heap[c]? = some (.cells cs t (0, 0)))
    (hs : cs'.size = cs.size) (hp : ∀ (i : Nat), i < l.length → cs'[i]? = cs[i]?) : HRel e H (w.setRow c cs') ∧ Evo e w e (w.setRow c cs') ∧ (w.setRow c cs').heap[c]? = some (.cells cs' t (0, 0)) := by
  have hother : ∀ c', c' ≠ c → (w.setRow c cs').heap[c']? = w.heap[c']? := by
    intro c' hne
    show (w.heap.modify c _)[c']? = _
    rw [Array.getElem?_modify, if_neg (fun h => hne h.symm)]
  have hsame : (w.setRow c cs').heap[c]? = some (.cells cs' t (0, 0)) := by
    show (w.heap.modify c _)[c]? = _
    rw [Array.getElem?_modify, if_pos rfl, hw]
    rfl
  obtain ⟨hlive, ds, t', h3, h4⟩ := hH.obj b _ c hb hc
  have hv : Evo e w e (w.setRow c cs') := by
    refine ⟨⟨rfl, rfl, rfl, by simp [World.setRow], fun c' _ hn => hother c' fun h => hn (h ▸ ⟨b, hc, hlive⟩), Nat.le_refl _, fun _ _ h => h, fun _ h => .inr h, fun c' ds t' fr hd => ?_⟩, fun _ _ h => h⟩
    by_cases h : c' = c
    · subst h
      rw [hw] at hd
      injection hd with hd
      injection hd with h1 h2 h3
      exact ⟨cs', t, (0, 0), hsame, by rw [hs, h1]⟩
    · exact ⟨ds, t', fr, by rw [hother c' h]; exact hd, rfl⟩
  rw [hw] at h3
  injection h3 with h3
  injection h3 with h5 h6 h7
  subst h5 h6
  have hobj : ObjRel e (w.setRow c cs') c (.cells l) := ⟨cs', t, hsame, fun i y hy => by
    obtain ⟨u, h8, h9⟩ := h4 i y hy
    exact ⟨u, by rw [hp i (List.getElem?_eq_some_iff.1 hy).1]; exact h8, h9.evo hv⟩⟩
  refine ⟨?_, hv, hsame⟩
  have := hH.turn hb hc hv hother hobj
  rwa [AHeap.set_self hb] at this

theorem oneCell_all {xs : List AV} {us : List Value} (h : LRel e w xs us) (ho : xs.all AV.one = true) : ∀ u ∈ us, u.oneCell' = true := by
  intro u hu
  obtain ⟨i, hi, rfl⟩ := List.mem_iff_getElem.1 hu
  have hi' : i < xs.length := by rw [← h.1]; exact hi
  refine (h.2 i xs[i] us[i] (List.getElem?_eq_getElem hi') (List.getElem?_eq_getElem hi)).one ?_
  rw [List.all_eq_true] at ho
  exact ho _ (List.getElem_mem hi')

/-- What a grown slice is. -/
theorem grown_rel (hH : HRel e H w) (el : TypeId) {es n k : Nat} {xs : List AV} {us : List Value} (hx : LRel e w xs us) (hl : us.length = n * es) (hk : n ≤ k) (z : Array Value) (hz : z.size = es) :
    HRel (e.push w.heap.size) (H.new (.cells xs)) (w.drew.alloc (.cells (us.toArray ++ Builtin.zeroCells z (k - n)) el)) ∧
    VRel (e.push w.heap.size) (w.drew.alloc (.cells (us.toArray ++ Builtin.zeroCells z (k - n)) el)) (.slc H.next 0 es n n false) (.slice (some ⟨w.heap.size, 0, none⟩) n k) ∧
    Evo e w (e.push w.heap.size) (w.drew.alloc (.cells (us.toArray ++ Builtin.zeroCells z (k - n)) el)) := by
  have hd := hH.drew
  have hev := (Evo.drew e w).trans (Evo.alloc hd (.cells (us.toArray ++ Builtin.zeroCells z (k - n)) el))
  refine ⟨hd.allocCells xs _ el fun i x hx' => ?_, ?_, hev⟩
  · obtain ⟨u, h1, h2⟩ := hx.get hx'
    refine ⟨u, ?_, h2.evo (Evo.drew e w)⟩
    rw [Array.getElem?_append_left (by simpa using (List.getElem?_eq_some_iff.1 h1).1)]
    simpa using h1
  · rw [← hH.next]
    refine .slc _ _ _ _ _ _ _ _ (by rw [push_map, if_pos rfl]) hk hk (by simp) _ _ _ (heap_alloc_new w.drew _) ?_
    simp only [Array.size_append, List.size_toArray, size_zeroCells, hz, hl, ← Nat.add_mul]
    rw [show n + (k - n) = k by omega]
    omega

theorem go_append (hH : HRel e H w) {t el ty : TypeId} (ht : P.underlying t = some (.slice el)) {i : TypeInfo} (hi : P.info? el = some i) {z : Value} (hz : i.zero = some z) (hzs : z.cells.size = i.size)
    {s x : AV} {us ux : Value} (hs : VRel e w s us) (hx : VRel e w x ux) {r : AV} {H' : AHeap} (h : aappend H i.size i.bytes s x = some (r, H')) : Goes P (Builtin.append_ #[t, t] ty #[us, ux]) e w r H' := by
  unfold aappend at h
  split at h
  · cases h
  rename_i n new hsrc
  obtain ⟨news, hnew, hnl, hshape⟩ := asrc_rel hH hx hsrc
  split at h
  · cases h
  rename_i hone
  have hone' : new.all AV.one = true ∧ i.size ≠ 0 := by
    refine ⟨?_, fun h0 => hone (.inr h0)⟩
    cases hh : new.all AV.one with
    | true => rfl
    | false => exact absurd (.inl hh) hone
  have zero : ∀ (sl : Option Addr) (len k : Nat), len ≤ k → n = 0 → us = .slice sl len k → (Builtin.append_ #[t, t] ty #[us, ux]).run P w = .ok us w := by
    intro sl len k hk h0 hus
    subst hus h0
    rcases hshape with ⟨rfl, _⟩ | ⟨a, c, rfl, _⟩
    · exact run_append_none t ty el i ht hi sl len k hk
    · exact run_append_zero t ty el i ht hi sl len k hk a c
  cases hs <;> (try simp only at h) <;> (try (cases h; done))
  case v hv =>
    split at h
    · rename_i heq
      injection heq with heq
      subst heq
      split at h
      · rename_i h0
        simp only [Option.some.injEq, Prod.mk.injEq] at h
        obtain ⟨rfl, rfl⟩ := h
        exact .stay hH (zero none 0 0 (Nat.le_refl _) h0 rfl) (.v _ rfl)
      · rename_i h0
        split at h
        · rename_i hb
          simp only [Option.some.injEq, Prod.mk.injEq] at h
          obtain ⟨rfl, rfl⟩ := h
          rcases hshape with ⟨_, h1⟩ | ⟨a, c, rfl, hc⟩
          · exact absurd h1 h0
          have hrun := run_append_nil (P := P) w t ty el i z ht hi hz a n c news hnl hc (by omega) (by omega) (by omega)
          obtain ⟨h1, h2, h3⟩ := grown_rel hH el hnew hnl (grownCap_ge w n 0 el) z.cells hzs
          exact ⟨_, _, _, hrun, h1, h2, h3⟩
        · cases h
    all_goals (first | (cases h; done) | (rename_i heq; cases heq; done) | skip)
    all_goals simp_all
  case ro len lo ex cells a0 k us0 hl hlo hc hn hs' hr =>
    split at h
    · rename_i hcond
      simp only [Option.some.injEq, Prod.mk.injEq] at h
      obtain ⟨rfl, rfl⟩ := h
      obtain ⟨c1, c2, c3, c4, c5⟩ := hcond
      have hk := hc c1
      rcases hshape with ⟨_, h1⟩ | ⟨a, c, rfl, hcc⟩
      · omega
      have hold : LRel e w (cells.take (len * i.size)) (us0.take (len * i.size)) := LRel.take ⟨hn, hr⟩ _
      have hrun := run_append_grow (P := P) w t ty el i z ht hi hz a0 len k (us0.take (len * i.size)) (by simp; omega) (fun j v hj => by
        rw [List.getElem?_take] at hj
        split at hj
        · exact (hs' j v hj).1
        · cases hj) a n c news hnl hcc (by omega) (by omega) (growslice_fits (by omega) c4)
      obtain ⟨h1, h2, h3⟩ := grown_rel hH el (hold.append hnew) (by simp [hnl, Nat.add_mul]; omega) (grownCap_ge w (len + n) k el) z.cells hzs
      refine ⟨_, _, e.push w.heap.size, hrun, ?_, ?_, ?_⟩
      · simpa [List.append_assoc] using h1
      · simpa [List.append_assoc] using h2
      · simpa [List.append_assoc] using h3
    · split at h
      · rename_i h0
        simp only [Option.some.injEq, Prod.mk.injEq] at h
        obtain ⟨rfl, rfl⟩ := h
        exact .stay hH (zero (some a0) len k hl h0 rfl) (.ro len lo ex cells a0 k us0 hl hlo hc hn hs' hr)
      · cases h
  case slc b off es' len lo ex c0 k hc0 hl hlo hc cs1 t1 fr1 hw1 hsz1 =>
    split at h
    case h_2 => cases h
    rename_i l hget
    split at h
    case isFalse => cases h
    rename_i hfit
    obtain ⟨f1, f2⟩ := hfit
    subst f1
    obtain ⟨hlive, cs, t0, hw0, hcells⟩ := hH.obj b _ c0 hget hc0
    have hw1' := hw1
    rw [hw0] at hw1'
    injection hw1' with hw1'
    injection hw1' with e1 e2 e3
    subst e1 e2
    split at h
    · rename_i h0
      simp only [Option.some.injEq, Prod.mk.injEq] at h
      obtain ⟨rfl, rfl⟩ := h
      exact .stay hH (zero _ len k hl h0 rfl) (.slc b off i.size len lo ex _ k hc0 hl hlo hc _ _ _ hw1 hsz1)
    rename_i h0
    rcases hshape with ⟨_, h1⟩ | ⟨a, c, rfl, hcc⟩
    · exact absurd h1 h0
    split at h
    · rename_i hin
      split at h
      case isFalse => cases h
      rename_i hroom
      simp only [Option.some.injEq, Prod.mk.injEq] at h
      obtain ⟨rfl, rfl⟩ := h
      have hrun := run_append_in (P := P) (w := w) t ty el i ht hi ⟨c0, off, none⟩ len k a n c news hnl hcc (by omega)
      have hnewlen : new.length = n * i.size := by rw [← hnew.1]; exact hnl
      have hmul : (len + n) * i.size = len * i.size + n * i.size := Nat.add_mul ..
      obtain ⟨w', h1, h2, h3⟩ := storeCells_rel (P := P) (off := off + len * i.size) new news 0 l w H hH hget hc0 hnew hone'.1 (by omega)
      rw [addr_add_plain, h1, Result.andThen_ok] at hrun
      refine ⟨_, w', e, hrun, by simpa using h2, ?_, h3⟩
      obtain ⟨cs', t', fr', h4, h5⟩ := h3.sizes _ _ _ _ hw0
      exact .slc _ _ _ _ _ _ _ _ hc0 (by omega) hlo hc cs' t' fr' h4 (by omega)
    rename_i hin
    split at h
    case isFalse => cases h
    rename_i hbound
    have hold : aload H (len * i.size) (.ptr b off) = some ((l.drop off).take (len * i.size)) := by simp [aload, hget, f2]
    obtain ⟨a', olds, g1, g2, g3, g4⟩ := aload_rel hH (VRel.ptr b off c0 hc0) hold
    injection g1 with g1
    injection g1 with g1
    subst g1
    have grow : k < len + n → Goes P (Builtin.append_ #[t, t] ty #[.slice (some ⟨c0, off, none⟩) len k, .slice (some a) n c]) e w (.slc H.next 0 i.size (len + n) (len + n) false) (H.new (.cells ((l.drop off).take (len * i.size) ++ new))) := by
      intro hk
      have hrun := run_append_grow (P := P) w t ty el i z ht hi hz ⟨c0, off, none⟩ len k olds g2 g3 a n c news hnl hcc hk (by omega) (growslice_fits hk hbound.1)
      obtain ⟨h1, h2, h3⟩ := grown_rel hH el (g4.append hnew) (by simp [hnl, g2, Nat.add_mul]) (grownCap_ge w (len + n) k el) z.cells hzs
      refine ⟨_, _, e.push w.heap.size, hrun, ?_, ?_, ?_⟩
      · simpa [List.append_assoc] using h1
      · simpa [List.append_assoc] using h2
      · simpa [List.append_assoc] using h3
    split at h
    · rename_i hex
      simp only [Option.some.injEq, Prod.mk.injEq] at h
      obtain ⟨rfl, rfl⟩ := h
      exact grow (by have := hc hex; omega)
    rename_i hex
    split at h
    case isFalse => cases h
    rename_i hend
    obtain ⟨ho, hll⟩ := hend
    subst ho
    simp only [Option.some.injEq, Prod.mk.injEq] at h
    obtain ⟨rfl, rfl⟩ := h
    have hcut : (l.drop 0).take (len * i.size) = l := by rw [List.drop_zero, ← hll, List.take_length]
    by_cases hk : k < len + n
    · obtain ⟨u, w', e', h1, h2, h3, h4⟩ := grow hk
      rw [hcut] at h2
      have hkill := h2.kill b
      refine ⟨u, w', e'.kill b, h1, ?_, h3.evo (Evo.kill e' w' b), h4.trans (Evo.kill e' w' b)⟩
      have hbn : b < H.next := hH.blt hget
      have : (H.new (.cells (l ++ new))).kill b = (H.kill b).new (.cells (l ++ new)) := by
        unfold AHeap.kill AHeap.new
        congr
        funext x
        dsimp only
        by_cases q1 : x = b
        · rw [if_pos q1, if_neg (by omega), if_pos q1]
        · rw [if_neg q1]
          by_cases q2 : x = H.next
          · rw [if_pos q2, if_pos q2]
          · rw [if_neg q2, if_neg q2, if_neg q1]
      rw [← this]
      exact hkill
    · have hrun := run_append_in (P := P) (w := w) t ty el i ht hi ⟨c0, 0, none⟩ len k a n c news hnl hcc (by omega)
      have hmul : (len + n) * i.size = len * i.size + n * i.size := Nat.add_mul ..
      have hkm : (len + n) * i.size ≤ k * i.size := Nat.mul_le_mul_right _ (by omega)
      have hst := run_storeCells_at P c0 (len * i.size) t0 news 0 cs w hw0 (by omega) (oneCell_all hnew hone'.1)
      rw [addr_add_plain] at hrun
      rw [show (0 : Nat) + len * i.size = len * i.size by omega, hst, Result.andThen_ok] at hrun
      simp only [Nat.add_zero] at hrun
      have hsz : ((cs.toList.take (len * i.size) ++ news ++ cs.toList.drop (len * i.size + news.length)).toArray).size = cs.size := by
        simp; omega
      obtain ⟨h1, h2, h3⟩ := setRow_rel hH hget hc0 hw0 (cs' := (cs.toList.take (len * i.size) ++ news ++ cs.toList.drop (len * i.size + news.length)).toArray) hsz (fun j hj => by
        simp only [List.append_assoc, List.getElem?_toArray]
        rw [List.getElem?_append_left (by simp; omega), List.getElem?_take, if_pos (by omega)]
        simp)
      have hnewlen : new.length = n * i.size := by rw [← hnew.1]; exact hnl
      have hobj : ObjRel e (w.setRow c0 (cs.toList.take (len * i.size) ++ news ++ cs.toList.drop (len * i.size + news.length)).toArray) c0 (.cells (l ++ new)) := by
        refine ⟨_, t0, h3, fun j y hy => ?_⟩
        have hg : ((cs.toList.take (len * i.size) ++ news ++ cs.toList.drop (len * i.size + news.length)).toArray)[j]? = (cs.toList.take (len * i.size) ++ (news ++ cs.toList.drop (len * i.size + news.length)))[j]? := by
          simp only [List.append_assoc, List.getElem?_toArray]
        by_cases hj : j < l.length
        · rw [List.getElem?_append_left hj] at hy
          obtain ⟨u, q1, q2⟩ := hcells j y hy
          exact ⟨u, by rw [hg, List.getElem?_append_left (by simp; omega), List.getElem?_take, if_pos (by omega)]; simpa using q1, q2.evo h2⟩
        · rw [List.getElem?_append_right (by omega)] at hy
          obtain ⟨u, q1, q2⟩ := hnew.get hy
          have hj' := (List.getElem?_eq_some_iff.1 q1).1
          refine ⟨u, ?_, q2.evo h2⟩
          rw [hg, List.getElem?_append_right (by simp; omega), List.getElem?_append_left (by simp; omega)]
          rw [← q1]
          congr 1
          simp
          omega
      obtain ⟨h4, h5⟩ := HRel.rename h1 hget hc0 hobj
      refine ⟨_, _, _, hrun, h4, ?_, h2.trans h5⟩
      rw [← hH.next]
      exact .slc _ _ _ _ _ _ _ _ (by rw [kp_map, if_pos rfl]) (by omega) (by omega) (by simp) _ t0 (0, 0) h3 (by rw [hsz]; omega)

end
end Go.Proofs.Ytooaiddfokbffaa.E
