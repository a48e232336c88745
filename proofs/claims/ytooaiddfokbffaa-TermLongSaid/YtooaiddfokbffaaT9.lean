/- Terms in blocks of one's own. Conditions: none. -/
import Derived.Test.YtooaiddfokbffaaT8
set_option linter.unusedVariables false
set_option linter.unusedSimpArgs false
namespace Go.Proofs.Ytooaiddfokbffaa.E
open Go Go.Proofs

/-- What is there stays. -/
def Sub (H H' : AHeap) : Prop := ∀ b o, H.get b = some o → H'.get b = some o
def Wf (H : AHeap) : Prop := ∀ b o, H.get b = some o → b < H.next

theorem Sub.refl (H : AHeap) : Sub H H := fun _ _ h => h
theorem Sub.trans {H H1 H2 : AHeap} (h : Sub H H1) (k : Sub H1 H2) : Sub H H2 := fun b o hb => k b o (h b o hb)
theorem Wf.new {H : AHeap} (h : Wf H) (o : AObj) : Wf (H.new o) := fun b q hb => by
  rw [new_get] at hb
  rw [new_next]
  split at hb
  · rename_i e; omega
  · have := h b q hb; omega
theorem Wf.set {H : AHeap} (h : Wf H) {b : Nat} (hb : b < H.next) (o : AObj) : Wf (H.set b o) := fun x q hx => by
  rw [set_get] at hx
  rw [set_next]
  split at hx
  · rename_i e; omega
  · exact h x q hx
theorem Sub.new {H : AHeap} (h : Wf H) (o : AObj) : Sub H (H.new o) := fun b q hb => by
  rw [new_get, if_neg (by have := h b q hb; omega)]
  exact hb
theorem Wf.empty : Wf AHeap.empty := fun b o h => by cases h

theorem Frz.mono {H H' : AHeap} (hs : Sub H H') {x y : AV} (h : Frz H x y) : Frz H' x y := by
  induction h with
  | v x => exact .v x
  | slc b off es len lo ex l cs g hb hg hz ih => exact .slc b off es len lo ex l cs g (hs b _ hb) hg ih
  | ptr b off l cs hb hn hz ih => exact .ptr b off l cs (hs b _ hb) hn ih
  | ro len lo ex l cs hn hz ih => exact .ro len lo ex l cs hn ih
  | fn f a b a' b' hn hn' h1 h2 ih1 ih2 => exact .fn f a b a' b' hn hn' ih1 ih2
  | agg l cs hn hz ih => exact .agg l cs hn ih

/-- Cells that are frozen, one by one. -/
def FrzL (H : AHeap) (xs ys : List AV) : Prop := ys.length = xs.length ∧ ∀ (i : Nat) (x y : AV), xs[i]? = some x → ys[i]? = some y → Frz H x y

theorem FrzL.mono {H H' : AHeap} (hs : Sub H H') {xs ys : List AV} (h : FrzL H xs ys) : FrzL H' xs ys := ⟨h.1, fun i x y h1 h2 => (h.2 i x y h1 h2).mono hs⟩
theorem FrzL.nil (H : AHeap) : FrzL H [] [] := ⟨rfl, fun i x y h => by simp at h⟩
theorem FrzL.cons {H : AHeap} {x y : AV} {xs ys : List AV} (h : Frz H x y) (k : FrzL H xs ys) : FrzL H (x :: xs) (y :: ys) := by
  refine ⟨by simp [k.1], fun i a b h1 h2 => ?_⟩
  cases i with
  | zero => simp at h1 h2; subst h1 h2; exact h
  | succ i => exact k.2 i a b (by simpa using h1) (by simpa using h2)
theorem FrzL.append {H : AHeap} {xs ys xs' ys' : List AV} (h : FrzL H xs ys) (k : FrzL H xs' ys') : FrzL H (xs ++ xs') (ys ++ ys') := by
  refine ⟨by simp [h.1, k.1], fun i a b h1 h2 => ?_⟩
  rcases Nat.lt_or_ge i xs.length with hi | hi
  · rw [List.getElem?_append_left hi] at h1
    rw [List.getElem?_append_left (by rw [h.1]; exact hi)] at h2
    exact h.2 i a b h1 h2
  · rw [List.getElem?_append_right hi] at h1
    rw [List.getElem?_append_right (by rw [h.1]; exact hi), h.1] at h2
    exact k.2 _ a b h1 h2

/-- A slice of a whole block of one's own, frozen. -/
theorem Frz.block {H : AHeap} {b : Nat} {l cs : List AV} (hb : H.get b = some (.cells l)) (h : FrzL H l cs) (es len lo : Nat) (ex : Bool) : Frz H (.slc b 0 es len lo ex) (.ro len lo ex cs) := by
  refine .slc b 0 es len lo ex l cs (fun i => l.getD i uv) hb (fun i y hy => ?_) (fun i y hy => ?_)
  · have hi : i < l.length := by rw [← h.1]; exact (List.getElem?_eq_some_iff.1 hy).1
    rw [Nat.zero_add, List.getElem?_eq_getElem hi]
    simp [hi]
  · have hi : i < l.length := by rw [← h.1]; exact (List.getElem?_eq_some_iff.1 hy).1
    refine h.2 i _ y ?_ hy
    rw [List.getElem?_eq_getElem hi]
    simp [hi]

def Rep (H : AHeap) (cells : List AV) (t : Tm) : Prop := ∃ ys, FrzL H cells ys ∧ TmR t ys

theorem Rep.mono {H H' : AHeap} (hs : Sub H H') {cells : List AV} {t : Tm} (h : Rep H cells t) : Rep H' cells t := let ⟨ys, h1, h2⟩ := h; ⟨ys, h1.mono hs, h2⟩

/-- A call that reads a term of one's own, and answers with a plain value. -/
theorem Rep.call {f : FuncId} {R : AV → Prop} {H G : AHeap} {cells : List AV} {t : Tm} (hr : Rep G cells t) (hG : Sub G H) (hs : ∀ x, R x → ∃ v, x = .v v)
    (h : ∀ ys, TmR t ys → SCall Try.prog f [.agg ys] AHeap.empty fun x H' => R x ∧ H' = AHeap.empty) : SCall Try.prog f [.agg cells] H fun x H' => R x ∧ H' = H := by
  obtain ⟨ys, h1, h2⟩ := hr.mono hG
  refine SCall.frame ((h ys h2).mono fun x H' hx => hx.1) hs fun e w us hH hL => ?_
  exact frz_list (args := [.agg cells]) (args' := [.agg ys]) rfl (fun i x y hx hy => by
    cases i with
    | zero => simp at hx hy; subst hx hy; exact .agg _ _ h1.1 h1.2
    | succ i => simp at hx) hH hL

def setTm : Tm := .mk 2 0 false (ByteArray.mk #[]) [⟨0, []⟩] []
def fstTm (t : Tm) : Tm := .mk 8 0 false (ByteArray.mk #[]) [] [t]
def appTm (a b : Tm) : Tm := .mk 5 0 false (ByteArray.mk #[]) [] [a, b]

abbrev nils : AV := .v (.slice none 0 0)
abbrev nostr : AV := .v (.string (ByteArray.mk #[]))

theorem FrzL.plain (H : AHeap) : FrzL H [aint 0, nils] [aint 0, nils] := FrzL.cons (.v _) (FrzL.cons (.v _) (FrzL.nil H))

theorem FrzL.len {H : AHeap} {xs ys : List AV} (h : FrzL H xs ys) : ys.length = xs.length := h.1

theorem rep_fst {H : AHeap} {b : Nat} {c : List AV} {t : Tm} (hb : H.get b = some (.cells c)) (h : Rep H c t) : Rep H [aint 8, aint 0, abl false, nostr, nils, .slc b 0 6 1 1 true] (fstTm t) := by
  obtain ⟨ys, h1, h2⟩ := h
  refine ⟨[aint 8, aint 0, abl false, nostr, nils, .ro 1 1 true ys], ?_, ?_⟩
  · exact .cons (.v _) (.cons (.v _) (.cons (.v _) (.cons (.v _) (.cons (.v _) (.cons (Frz.block hb h1 6 1 1 true) (.nil H))))))
  · simp only [fstTm, TmR]
    refine ⟨nils, .ro 1 1 true ys, [], ys, rfl, .inl ⟨rfl, rfl⟩, trivial, .inr ⟨1, true, rfl, Nat.le_refl _⟩, ?_⟩
    simp only [KsR]
    exact ⟨by rw [List.take_of_length_le (by rw [h2.len]; omega)]; exact h2, trivial⟩

theorem rep_app {H : AHeap} {b : Nat} {c1 c2 : List AV} {t1 t2 : Tm} (hb : H.get b = some (.cells (c1 ++ c2))) (h1 : Rep H c1 t1) (h2 : Rep H c2 t2) : Rep H [aint 5, aint 0, abl false, nostr, nils, .slc b 0 6 2 2 true] (appTm t1 t2) := by
  obtain ⟨ys, k1, k2⟩ := h1
  obtain ⟨zs, m1, m2⟩ := h2
  refine ⟨[aint 5, aint 0, abl false, nostr, nils, .ro 2 2 true (ys ++ zs)], ?_, ?_⟩
  · exact .cons (.v _) (.cons (.v _) (.cons (.v _) (.cons (.v _) (.cons (.v _) (.cons (Frz.block hb (k1.append m1) 6 2 2 true) (.nil H))))))
  · simp only [appTm, TmR]
    refine ⟨nils, .ro 2 2 true (ys ++ zs), [], ys ++ zs, rfl, .inl ⟨rfl, rfl⟩, trivial, .inr ⟨2, true, rfl, Nat.le_refl _⟩, ?_⟩
    simp only [KsR]
    refine ⟨by rw [List.take_append_of_le_length (by rw [k2.len]; omega), List.take_of_length_le (by rw [k2.len]; omega)]; exact k2, ?_, trivial⟩
    rw [List.drop_append_of_le_length (by rw [k2.len]; omega), List.drop_of_length_le (by rw [k2.len]; omega), List.nil_append, List.take_of_length_le (by rw [m2.len]; omega)]
    exact m2

theorem rep_set {H : AHeap} {b : Nat} (hb : H.get b = some (.cells [aint 0, nils])) : Rep H [aint 2, aint 0, abl false, nostr, .slc b 0 2 1 1 true, nils] setTm := by
  refine ⟨[aint 2, aint 0, abl false, nostr, .ro 1 1 true [aint 0, nils], nils], ?_, ?_⟩
  · exact .cons (.v _) (.cons (.v _) (.cons (.v _) (.cons (.v _) (.cons (Frz.block hb (FrzL.plain H) 2 1 1 true) (.cons (.v _) (.nil H))))))
  · simp only [setTm, TmR]
    refine ⟨.ro 1 1 true [aint 0, nils], nils, [aint 0, nils], [], rfl, .inr ⟨1, true, rfl, Nat.le_refl _⟩, ?_, .inl ⟨rfl, rfl⟩, trivial⟩
    simp only [LvsR]
    exact ⟨⟨nils, [], rfl, .inl ⟨rfl, rfl⟩, trivial⟩, trivial⟩

theorem Rep.len {H : AHeap} {cells : List AV} {t : Tm} (h : Rep H cells t) : cells.length = 6 := by
  obtain ⟨ys, h1, h2⟩ := h
  rw [← h1.1, h2.len]

/-- Cells of a term, one by one, none of them more than one. -/
theorem Rep.six {H : AHeap} {cells : List AV} {t : Tm} (h : Rep H cells t) : ∃ a b c d e f, cells = [a, b, c, d, e, f] ∧ a.one = true ∧ b.one = true ∧ c.one = true ∧ d.one = true ∧ e.one = true ∧ f.one = true := by
  have hl := h.len
  obtain ⟨ys, h1, h2⟩ := h
  obtain ⟨lx, kx, ls, cs, rfl, hl1, _, hk1, _⟩ := h2.six
  match cells, hl with
  | [a, b, c, d, e, f], _ =>
    have key : ∀ {x y : AV}, Frz H x y → y.one = true → x.one = true := fun {x y} hz hy => by
      cases hz <;> first | exact hy | rfl
    exact ⟨a, b, c, d, e, f, rfl, key (h1.2 0 _ _ rfl rfl) rfl, key (h1.2 1 _ _ rfl rfl) rfl, key (h1.2 2 _ _ rfl rfl) rfl, key (h1.2 3 _ _ rfl rfl) rfl, key (h1.2 4 _ _ rfl rfl) hl1.one, key (h1.2 5 _ _ rfl rfl) hk1.one⟩

/-- The block of a call's own start is known to be well laid. -/
theorem SCall.introW {P : Program} (hm : P.follows .mixedOrders = true) {f : FuncId} {plans : List (Nat × List (Nat × List Nat))} {F : AFn} (hc : compFn P f plans = some F) {args : List AV} {H : AHeap} {R : AV → AHeap → Prop}
    (h : Wf H → swp P F.code (postF F.res R) ⟨argTm args, H⟩) : SCall P f args H R := by
  by_cases hw : Wf H
  · exact SCall.intro hm hc (h hw)
  · obtain ⟨b, hb⟩ := Classical.not_forall.1 hw
    obtain ⟨o, ho⟩ := Classical.not_forall.1 hb
    unfold compFn at hc
    split at hc
    case h_2 => cases hc
    rename_i fn hf
    split at hc
    case h_2 => cases hc
    rename_i c hbd
    split at hc
    case isTrue => cases hc
    rename_i hn
    refine ⟨⟨fn, hf, by simpa using hn, by rw [hbd]; rfl⟩, fun e w us hH hL => absurd hH.get fun hg => ?_⟩
    exact hw fun b o hbo => hg b o hbo

end Go.Proofs.Ytooaiddfokbffaa.E
