/- Texts of the proof, one behind the other. Conditions: none. -/
import Derived.Test.YtooaiddfokbffaaA1
import Derived.IntWalk
import Derived.Test.YtooaiddfokbffaaProg
import Derived.KernelRfl
/- Calls: what they laid out is dropped, what is only read is frozen, loops by what holds at each round. Conditions: none. -/
set_option linter.unusedVariables false
set_option linter.unusedSimpArgs false
namespace Go.Proofs.Ytooaiddfokbffaa.E
open Go

/-- No block from a number on. -/
inductive Old (n : Nat) : AV → Prop
  | v (x : Value) : Old n (.v x)
  | ptr (b off : Nat) (h : b < n) : Old n (.ptr b off)
  | slc (b off es len lo : Nat) (ex : Bool) (h : b < n) : Old n (.slc b off es len lo ex)
  | ro (len lo : Nat) (ex : Bool) (cells : List AV) (h : ∀ x, x ∈ cells → Old n x) : Old n (.ro len lo ex cells)
  | rop (cells : List AV) (off : Nat) (h : ∀ x, x ∈ cells → Old n x) : Old n (.rop cells off)
  | fn (f : Fn) (first captured : List AV) (h1 : ∀ x, x ∈ first → Old n x) (h2 : ∀ x, x ∈ captured → Old n x) : Old n (.fn f first captured)
  | agg (cells : List AV) (h : ∀ x, x ∈ cells → Old n x) : Old n (.agg cells)
  | tup (vs : List AV) (h : ∀ x, x ∈ vs → Old n x) : Old n (.tup vs)
  | ifc (t : TypeId) (x : AV) (h : Old n x) : Old n (.ifc t x)
  | mp (b : Nat) (h : b < n) : Old n (.mp b)
  | ch (b : Nat) (h : b < n) : Old n (.ch b)
  | yld (b : Nat) (h : b < n) : Old n (.yld b)

inductive OldO (n : Nat) : AObj → Prop
  | cells (l : List AV) (h : ∀ x, x ∈ l → Old n x) : OldO n (.cells l)
  | map (es : List (AV × AV × Nat)) (clock : Nat) (h : ∀ p, p ∈ es → Old n p.1 ∧ Old n p.2.1) : OldO n (.map es clock)
  | iterS (s : ByteArray) (pos : Nat) : OldO n (.iterS s pos)
  | chan (cap : Nat) (buf : List AV) (closed : Bool) (s r : Nat) (h : ∀ x, x ∈ buf → Old n x) : OldO n (.chan cap buf closed s r)
  | loop (L : ALoop) (h : ∀ i, Old n (L.tm i)) : OldO n (.loop L)
  | iterM (m since : Nat) (seen : List Nat) (last : Nat) (h : m < n) : OldO n (.iterM m since seen last)
  | iterN : OldO n .iterN

def Emb.cut (e : Emb) (n : Nat) : Emb := ⟨fun b => if b < n then e.map b else none, e.live, n⟩

theorem cut_map (e : Emb) (n b : Nat) : (e.cut n).map b = if b < n then e.map b else none := rfl
theorem cut_hits {e : Emb} {n c : Nat} (h : (e.cut n).hits c) : e.hits c := by
  obtain ⟨b, h1, h2⟩ := h
  rw [cut_map] at h1
  split at h1
  · exact ⟨b, h1, h2⟩
  · cases h1

section
variable {e : Emb} {w : World} {H : AHeap} {P : Program}

theorem VRel.cut {n : Nat} {x : AV} {u : Value} (h : VRel e w x u) (ho : Old n x) : VRel (e.cut n) w x u := by
  induction h with
  | v x h => exact .v x h
  | ptr b off c hc => cases ho with | ptr _ _ hb => exact .ptr b off c (by rw [cut_map, if_pos hb]; exact hc)
  | slc b off es len lo ex c k hm hl hlo hcap cs t fr hw hs => cases ho with | slc _ _ _ _ _ _ hb => exact .slc b off es len lo ex c k (by rw [cut_map, if_pos hb]; exact hm) hl hlo hcap cs t fr hw hs
  | ro len lo ex cells a k us hl hlo hcap hn hs hr ih => cases ho with | ro _ _ _ _ hc => exact .ro len lo ex cells a k us hl hlo hcap hn (fun i u hu => ⟨(hs i u hu).1, fun hh => (hs i u hu).2 (cut_hits hh)⟩) fun i x u hx hu => ih i x u hx hu (hc x (List.mem_of_getElem? hx))
  | rop cells off a us hn hs hr ih => cases ho with | rop _ _ hc => exact .rop cells off a us hn (fun i u hu => ⟨(hs i u hu).1, fun hh => (hs i u hu).2 (cut_hits hh)⟩) fun i x u hx hu => ih i x u hx hu (hc x (List.mem_of_getElem? hx))
  | fn f first captured fs cs hf hc h1 h2 ih1 ih2 => cases ho with | fn _ _ _ k1 k2 => exact .fn f first captured fs cs hf hc (fun i x u hx hu => ih1 i x u hx hu (k1 x (List.mem_of_getElem? hx))) fun i x u hx hu => ih2 i x u hx hu (k2 x (List.mem_of_getElem? hx))
  | agg cells cs hn h ih => cases ho with | agg _ hc => exact .agg cells cs hn fun i x u hx hu => ih i x u hx hu (hc x (List.mem_of_getElem? hx))
  | tup vs cs hn h ih => cases ho with | tup _ hc => exact .tup vs cs hn fun i x u hx hu => ih i x u hx hu (hc x (List.mem_of_getElem? hx))
  | ifc t x u h ih => cases ho with | ifc _ _ hx => exact .ifc t x u (ih hx)
  | mp b r hm => cases ho with | mp _ hb => exact .mp b r (by rw [cut_map, if_pos hb]; exact hm)
  | ch b r hm => cases ho with | ch _ hb => exact .ch b r (by rw [cut_map, if_pos hb]; exact hm)
  | yld b r hm => cases ho with | yld _ hb => exact .yld b r (by rw [cut_map, if_pos hb]; exact hm)

theorem ObjRel.cut {n c : Nat} {o : AObj} (h : ObjRel e w c o) (ho : OldO n o) : ObjRel (e.cut n) w c o := by
  cases ho with
  | cells l hl => obtain ⟨cs, t, h1, h2⟩ := h; exact ⟨cs, t, h1, fun i x hx => let ⟨u, h3, h4⟩ := h2 i x hx; ⟨u, h3, h4.cut (hl x (List.mem_of_getElem? hx))⟩⟩
  | map es clock hl => obtain ⟨ens, h1, h2, h3⟩ := h; exact ⟨ens, h1, h2, fun i k v m ent h4 h5 => let ⟨a, b, c⟩ := h3 i k v m ent h4 h5; ⟨a.cut (hl _ (List.mem_of_getElem? h4)).1, b.cut (hl _ (List.mem_of_getElem? h4)).2, c⟩⟩
  | iterS s p => exact h
  | chan cap buf closed s r hl => obtain ⟨us, h1, h2⟩ := h; exact ⟨us, h1, h2.1, fun i x u hx hu => (h2.2 i x u hx hu).cut (hl x (List.mem_of_getElem? hx))⟩
  | loop L hl => obtain ⟨r, h1, h2, h3, h4, h5, h6⟩ := h; exact ⟨r, h1, h2, h3, h4, fun i => (h5 i).cut (hl i), h6⟩
  | iterM m since seen last hl => obtain ⟨mc, h1, h2⟩ := h; exact ⟨mc, by rw [cut_map, if_pos hl]; exact h1, h2⟩
  | iterN => exact h

theorem cut_get (H : AHeap) (n b : Nat) : (H.cut n).get b = if b < n then H.get b else none := rfl

theorem VRel.old {n : Nat} (hn : ∀ b c, e.map b = some c → b < n) {x : AV} {u : Value} (h : VRel e w x u) : Old n x := by
  induction h with
  | v x h => exact .v x
  | ptr b off c hc => exact .ptr b off (hn b c hc)
  | slc b off es len lo ex c k hm hl hlo hcap cs t fr hw hs => exact .slc b off es len lo ex (hn b c hm)
  | ro len lo ex cells a k us hl hlo hcap hn' hs hr ih =>
    refine .ro len lo ex cells fun x hx => ?_
    obtain ⟨i, hi, rfl⟩ := List.getElem_of_mem hx
    exact ih i _ _ (List.getElem?_eq_getElem hi) (List.getElem?_eq_getElem (hn' ▸ hi))
  | rop cells off a us hn' hs hr ih =>
    refine .rop cells off fun x hx => ?_
    obtain ⟨i, hi, rfl⟩ := List.getElem_of_mem hx
    exact ih i _ _ (List.getElem?_eq_getElem hi) (List.getElem?_eq_getElem (hn' ▸ hi))
  | fn f first captured fs cs hf hc h1 h2 ih1 ih2 =>
    refine .fn f first captured (fun x hx => ?_) fun x hx => ?_
    · obtain ⟨i, hi, rfl⟩ := List.getElem_of_mem hx
      exact ih1 i _ _ (List.getElem?_eq_getElem hi) (Array.getElem?_eq_getElem (hf ▸ hi))
    · obtain ⟨i, hi, rfl⟩ := List.getElem_of_mem hx
      exact ih2 i _ _ (List.getElem?_eq_getElem hi) (Array.getElem?_eq_getElem (hc ▸ hi))
  | agg cells cs hn' h ih =>
    refine .agg cells fun x hx => ?_
    obtain ⟨i, hi, rfl⟩ := List.getElem_of_mem hx
    exact ih i _ _ (List.getElem?_eq_getElem hi) (Array.getElem?_eq_getElem (hn' ▸ hi))
  | tup cells cs hn' h ih =>
    refine .tup cells fun x hx => ?_
    obtain ⟨i, hi, rfl⟩ := List.getElem_of_mem hx
    exact ih i _ _ (List.getElem?_eq_getElem hi) (Array.getElem?_eq_getElem (hn' ▸ hi))
  | ifc t x u h ih => exact .ifc t x ih
  | mp b r hm => exact .mp b (hn b r hm)
  | ch b r hm => exact .ch b (hn b r hm)
  | yld b r hm => exact .yld b (hn b r hm)

theorem HRel.oldO (h : HRel e H w) {b c : Nat} {o : AObj} (hb : H.get b = some o) (hc : e.map b = some c) : OldO H.next o := by
  have hn : ∀ b c, e.map b = some c → b < H.next := fun b c hm => h.mlt hm
  obtain ⟨_, ho⟩ := h.obj b o c hb hc
  cases o with
  | cells l =>
    obtain ⟨cs, t, h1, h2⟩ := ho
    refine .cells l fun x hx => ?_
    obtain ⟨i, hi⟩ := List.getElem?_of_mem hx
    obtain ⟨u, _, h4⟩ := h2 i x hi
    exact h4.old hn
  | map es clock =>
    obtain ⟨ens, h1, h2, h3⟩ := ho
    refine .map es clock fun p hp => ?_
    obtain ⟨i, hi, rfl⟩ := List.getElem_of_mem hp
    obtain ⟨k1, k2, _⟩ := h3 i _ _ _ _ (List.getElem?_eq_getElem hi) (Array.getElem?_eq_getElem (h2 ▸ hi))
    exact ⟨k1.old hn, k2.old hn⟩
  | iterS s p => exact .iterS s p
  | chan cap buf closed s r =>
    obtain ⟨us, h1, h2⟩ := ho
    refine .chan cap buf closed s r fun x hx => ?_
    obtain ⟨i, hi, rfl⟩ := List.getElem_of_mem hx
    have hi' : i < us.toList.length := by rw [h2.1]; exact hi
    exact (h2.2 i _ _ (List.getElem?_eq_getElem hi) (List.getElem?_eq_getElem hi')).old hn
  | loop L =>
    obtain ⟨r, h1, h2, h3, h4, h5, h6⟩ := ho
    exact .loop L fun i => (h5 i).old hn
  | iterM m since seen last =>
    obtain ⟨mc, h1, _⟩ := ho
    exact .iterM m since seen last (hn m mc h1)
  | iterN => exact .iterN

theorem HRel.cut {n : Nat} (h : HRel e H w) (hn : n ≤ H.next) (ho : ∀ b, b < n → ∀ o c, H.get b = some o → e.map b = some c → OldO n o) : HRel (e.cut n) (H.cut n) w := by
  refine ⟨rfl, fun b hb => by rw [cut_map, if_neg (show ¬ b < n from Nat.not_lt.2 hb)], fun b b' c h1 h2 l1 l2 => ?_, fun b c h1 l1 => ?_, fun b o c h1 h2 => ?_, fun b o h1 => ?_, fun b c h1 => ?_⟩
  · rw [cut_map] at h1 h2
    split at h1
    · split at h2
      · exact h.inj b b' c h1 h2 l1 l2
      · cases h2
    · cases h1
  · rw [cut_map] at h1
    split at h1
    · rename_i hb
      obtain ⟨o, h2⟩ := h.dom b c h1 l1
      exact ⟨o, by rw [cut_get, if_pos hb]; exact h2⟩
    · cases h1
  · rw [cut_get] at h1
    rw [cut_map] at h2
    split at h1
    · rename_i hb
      rw [if_pos hb] at h2
      obtain ⟨h3, h4⟩ := h.obj b o c h1 h2
      exact ⟨h3, h4.cut (ho b hb o c h1 h2)⟩
    · cases h1
  · rw [cut_get] at h1
    split at h1
    · assumption
    · cases h1
  · rw [cut_map] at h1
    split at h1
    · exact h.lt b c h1
    · cases h1

theorem Evo.cut {e' : Emb} {w' : World} (h : Evo e w e' w') (hH : HRel e H w) : Evo e w (e'.cut H.next) w' where
  os := h.os
  output := h.output
  tape := h.tape
  size := h.size
  frame := h.frame
  next := by rw [hH.next]; exact Nat.le_refl _
  old := fun b c hb => by rw [cut_map, if_pos (hH.mlt hb)]; exact h.old b c hb
  hits := fun c hc => h.hits c (cut_hits hc)
  sizes := h.sizes
  un := fun b hb hm => by
    rw [cut_map]
    split
    · exact h.un b hb hm
    · rfl

theorem LRel.old {args : List AV} {us : List Value} (hL : LRel e w args us) (hH : HRel e H w) : ∀ y, y ∈ args → Old H.next y := by
  intro y hy
  obtain ⟨i, hi, rfl⟩ := List.getElem_of_mem hy
  exact (hL.2 i _ _ (List.getElem?_eq_getElem hi) (List.getElem?_eq_getElem (hL.1 ▸ hi))).old fun b c hm => hH.mlt hm

/-- What a call laid out is dropped, where nothing that stays leads there. -/
theorem SCall.cut {f : FuncId} {args : List AV} {R : AV → AHeap → Prop} (h : SCall P f args H R)
    (ho : (∀ y, y ∈ args → Old H.next y) → ∀ x H', R x H' → H.next ≤ H'.next ∧ Old H.next x ∧ ∀ b, b < H.next → ∀ o, H'.get b = some o → H.get b = some o ∨ OldO H.next o) :
    SCall P f args H fun x H'' => ∃ H', R x H' ∧ H'' = H'.cut H.next := by
  refine ⟨h.1, fun e w us hH hL => (h.2 e w us hH hL).mono fun en w' hp => ?_⟩
  obtain ⟨u, x, H', e', rfl, h1, h2, h3, h4⟩ := hp
  obtain ⟨k1, k2, k3⟩ := ho (hL.old hH) x H' h1
  refine ⟨u, x, H'.cut H.next, e'.cut H.next, rfl, ⟨H', h1, rfl⟩, h2.cut k1 (fun b hb o c hg hm => ?_), h3.cut k2, h4.cut hH⟩
  rcases k3 b hb o hg with k | k
  · cases he : e.map b with
    | none => have := h4.un b (by rw [hH.next]; exact hb) he; rw [hm] at this; cases this
    | some c' => exact hH.oldO k he
  · exact k

/-- The same, where what stays is told. -/
theorem SCall.cutTo {f : FuncId} {args : List AV} {R : AV → AHeap → Prop} (H1 : AHeap) (h : SCall P f args H R) (hn : H1.next = H.next)
    (hw : (∀ b o, H.get b = some o → b < H.next) → ∀ b o, H1.get b = some o → b < H.next)
    (ho : (∀ y, y ∈ args → Old H.next y) → ∀ x H', R x H' → H.next ≤ H'.next ∧ Old H.next x ∧ (∀ b, b < H.next → H'.get b = H1.get b) ∧ ∀ b, b < H.next → ∀ o, H1.get b = some o → H.get b = some o ∨ OldO H.next o) :
    SCall P f args H fun x H' => (∃ H'', R x H'') ∧ H' = H1 := by
  have h' := h.cut fun ha x H' hr => let ⟨k1, k2, k3, k4⟩ := ho ha x H' hr; ⟨k1, k2, fun b hb o hg => k4 b hb o (by rw [← k3 b hb]; exact hg)⟩
  refine ⟨h'.1, fun e w us hH hL => (h'.2 e w us hH hL).mono fun en w' hp => ?_⟩
  obtain ⟨u, x, _, e', rfl, ⟨H', h1, rfl⟩, h2, h3, h4⟩ := hp
  obtain ⟨k1, k2, k3, k4⟩ := ho (hL.old hH) x H' h1
  have heq : H'.cut H.next = H1 := by
    cases H1 with
    | mk g n =>
      simp only at hn
      subst hn
      simp only [AHeap.cut, AHeap.mk.injEq, and_true]
      funext b
      split
      · rename_i hb; exact k3 b hb
      · rename_i hb
        cases hg : g b with
        | none => rfl
        | some o => exact absurd (hw hH.get b o hg) hb
  rw [heq] at h2
  exact ⟨u, x, H1, e', rfl, ⟨⟨H', h1⟩, rfl⟩, h2, h3, h4⟩

theorem SCall.pure {f : FuncId} {args : List AV} {R : AV → AHeap → Prop} (h : SCall P f args H R)
    (ho : (∀ y, y ∈ args → Old H.next y) → ∀ x H', R x H' → H.next ≤ H'.next ∧ Old H.next x ∧ ∀ b, b < H.next → H'.get b = H.get b) : SCall P f args H fun x H' => (∃ H'', R x H'') ∧ H' = H :=
  h.cutTo H rfl (fun h => h) fun ha x H' hr => let ⟨k1, k2, k3⟩ := ho ha x H' hr; ⟨k1, k2, k3, fun b _ o hg => .inl hg⟩

def Ext (H H' : AHeap) : Prop := H.next ≤ H'.next ∧ ∀ b, b < H.next → H'.get b = H.get b

theorem SCall.val {f : FuncId} {args : List AV} {v : Value} (h : SCall P f args H fun x H' => x = .v v ∧ Ext H H') : SCall P f args H fun x H' => x = .v v ∧ H' = H :=
  (h.pure fun _ x H' ⟨h1, h2, h3⟩ => ⟨h2, by rw [h1]; exact .v _, h3⟩).mono fun x H' ⟨⟨_, h1, _⟩, h2⟩ => ⟨h1, h2⟩

theorem SCall.valO {f : FuncId} {args : List AV} {x0 : AV} (ho : Old H.next x0) (h : SCall P f args H fun x H' => x = x0 ∧ Ext H H') : SCall P f args H fun x H' => x = x0 ∧ H' = H :=
  (h.pure fun _ x H' ⟨h1, h2, h3⟩ => ⟨h2, by rw [h1]; exact ho, h3⟩).mono fun x H' ⟨⟨_, h1, _⟩, h2⟩ => ⟨h1, h2⟩

/-- The same heap, a while on: what was there is as it was. -/
theorem HRel.keep {e0 e' : Emb} {w' : World} (hH : HRel e H w) (hv : Evo Emb.empty w e' w') : HRel e H w' ∧ Evo e w e w' := by
  have hno : ∀ c, ¬ Emb.empty.hits c := fun c ⟨b, hb, _⟩ => by cases hb
  have hv' : Evo e w e w' := ⟨⟨hv.os, hv.output, hv.tape, hv.size, fun c hc _ => hv.frame c hc (hno c), Nat.le_refl _, fun _ _ h => h, fun _ h => .inr h, hv.sizes⟩, fun _ _ h => h⟩
  exact ⟨hH.of_same hv' fun c ⟨b, hb, _⟩ => hv.frame c (hH.lt b c hb) (hno c), hv'⟩

theorem HRel.none (w : World) : HRel Emb.empty AHeap.empty w :=
  ⟨rfl, fun _ _ => rfl, fun _ _ _ h => (by cases h), fun _ _ h => (by cases h), fun _ _ _ h => (by cases h), fun _ _ h => (by cases h), fun _ _ h => (by cases h)⟩

/-- A call that only reads, and answers with a plain value: from the empty heap to any. -/
theorem SCall.frame {f : FuncId} {args args' : List AV} {R : AV → Prop} (h : SCall P f args' AHeap.empty fun x _ => R x) (hs : ∀ x, R x → ∃ v, x = .v v)
    (hf : ∀ e w us, HRel e H w → LRel e w args us → LRel Emb.empty w args' us) : SCall P f args H fun x H' => R x ∧ H' = H := by
  refine ⟨h.1, fun e w us hH hL => (h.2 Emb.empty w us (HRel.none w) (hf e w us hH hL)).mono fun en w' hp => ?_⟩
  obtain ⟨u, x, H', e', rfl, h1, h2, h3, h4⟩ := hp
  obtain ⟨v, rfl⟩ := hs x h1
  obtain ⟨k1, k2⟩ := hH.keep (e0 := e) h4
  refine ⟨u, .v v, H, e, rfl, ⟨h1, rfl⟩, k1, ?_, k2⟩
  cases h3 with | v _ hx => exact .v _ hx

/-! ### Freezing -/
inductive Frz (H : AHeap) : AV → AV → Prop
  | v (x : Value) : Frz H (.v x) (.v x)
  | slc (b off es len lo : Nat) (ex : Bool) (l cs : List AV) (g : Nat → AV) (hb : H.get b = some (.cells l)) (hg : ∀ (i : Nat) (y : AV), cs[i]? = some y → l[off + i]? = some (g i))
      (hz : ∀ (i : Nat) (y : AV), cs[i]? = some y → Frz H (g i) y) : Frz H (.slc b off es len lo ex) (.ro len lo ex cs)
  | ptr (b off : Nat) (l cs : List AV) (hb : H.get b = some (.cells l)) (hn : cs.length = l.length) (hz : ∀ (i : Nat) (x y : AV), l[i]? = some x → cs[i]? = some y → Frz H x y) : Frz H (.ptr b off) (.rop cs off)
  | ro (len lo : Nat) (ex : Bool) (l cs : List AV) (hn : cs.length ≤ l.length) (hz : ∀ (i : Nat) (x y : AV), l[i]? = some x → cs[i]? = some y → Frz H x y) : Frz H (.ro len lo ex l) (.ro len lo ex cs)
  | fn (f : Fn) (a b a' b' : List AV) (hn : a'.length = a.length) (hn' : b'.length = b.length) (h1 : ∀ (i : Nat) (x y : AV), a[i]? = some x → a'[i]? = some y → Frz H x y)
      (h2 : ∀ (i : Nat) (x y : AV), b[i]? = some x → b'[i]? = some y → Frz H x y) : Frz H (.fn f a b) (.fn f a' b')
  | agg (l cs : List AV) (hn : cs.length = l.length) (hz : ∀ (i : Nat) (x y : AV), l[i]? = some x → cs[i]? = some y → Frz H x y) : Frz H (.agg l) (.agg cs)

theorem nohit (c : Nat) : ¬ Emb.empty.hits c := fun ⟨b, hb, _⟩ => by cases hb

theorem Frz.rel (hH : HRel e H w) {x y : AV} (h : Frz H x y) : ∀ u, VRel e w x u → VRel Emb.empty w y u := by
  induction h with
  | v x => intro u hu; cases hu with | v _ h => exact .v x h
  | slc b off es len lo ex l cs g hb hg hz ih =>
    intro u hu
    cases hu with
    | slc _ _ _ _ _ _ c k hm hl hlo hcap ws t fr hw hs =>
    obtain ⟨_, ws', t', h1, h2⟩ := hH.obj b _ c hb hm
    rw [hw] at h1
    injection h1 with h1
    injection h1 with h1 _ _
    subst h1
    refine .ro len lo ex cs ⟨c, off, none⟩ k ((List.range cs.length).map fun i => ws.getD (off + i) undef) hl hlo hcap (by simp) (fun i u hu => ⟨?_, nohit _⟩) (fun i y u hy hu => ?_)
    · simp only [List.getElem?_map, List.getElem?_range', Option.map_eq_some_iff] at hu
      obtain ⟨j, hj, rfl⟩ := hu
      rw [List.getElem?_eq_some_iff] at hj
      obtain ⟨hj1, hj2⟩ := hj
      simp at hj1 hj2
      subst hj2
      obtain ⟨u, h3, h4⟩ := h2 (off + i) _ (hg i _ (List.getElem?_eq_getElem hj1))
      rw [addr_add_plain]
      unfold World.cell?
      simp only [hw]
      rw [Array.getD_eq_getD_getElem?, h3]
      rfl
    · simp only [List.getElem?_map, Option.map_eq_some_iff] at hu
      obtain ⟨j, hj, rfl⟩ := hu
      rw [List.getElem?_eq_some_iff] at hj
      obtain ⟨hj1, hj2⟩ := hj
      simp at hj1 hj2
      subst hj2
      obtain ⟨u, h3, h4⟩ := h2 (off + i) _ (hg i y hy)
      rw [Array.getD_eq_getD_getElem?, h3]
      exact ih i y hy u h4
  | ptr b off l cs hb hn hz ih =>
    intro u hu
    cases hu with
    | ptr _ _ c hm =>
    obtain ⟨_, ws, t, h1, h2⟩ := hH.obj b _ c hb hm
    have key : (⟨c, 0, none⟩ : Addr).add off = ⟨c, off, none⟩ := by rw [addr_add_plain, Nat.zero_add]
    rw [← key]
    refine .rop cs off ⟨c, 0, none⟩ ((List.range cs.length).map fun i => ws.getD i undef) (by simp) (fun i u hu => ⟨?_, nohit _⟩) (fun i y u hy hu => ?_)
    · simp only [List.getElem?_map, Option.map_eq_some_iff] at hu
      obtain ⟨j, hj, rfl⟩ := hu
      rw [List.getElem?_eq_some_iff] at hj
      obtain ⟨hj1, hj2⟩ := hj
      simp at hj1 hj2
      subst hj2
      obtain ⟨u, h3, h4⟩ := h2 i _ (List.getElem?_eq_getElem (hn ▸ hj1))
      rw [addr_add_plain, Nat.zero_add]
      unfold World.cell?
      simp only [h1]
      rw [Array.getD_eq_getD_getElem?, h3]
      rfl
    · simp only [List.getElem?_map, Option.map_eq_some_iff] at hu
      obtain ⟨j, hj, rfl⟩ := hu
      rw [List.getElem?_eq_some_iff] at hj
      obtain ⟨hj1, hj2⟩ := hj
      simp at hj1 hj2
      subst hj2
      have hx := List.getElem?_eq_getElem (l := l) (i := i) (hn ▸ hj1)
      obtain ⟨u, h3, h4⟩ := h2 i _ hx
      rw [Array.getD_eq_getD_getElem?, h3]
      exact ih i _ y hx hy u h4
  | ro len lo ex l cs hn hz ih =>
    intro u hu
    cases hu with
    | ro _ _ _ _ a k us hl hlo hcap hn' hs hr =>
      have hsub : ∀ (i : Nat) (u : Value), (us.take cs.length)[i]? = some u → us[i]? = some u := fun i u hu => by
        rw [List.getElem?_take] at hu
        split at hu
        · exact hu
        · cases hu
      refine .ro len lo ex cs a k (us.take cs.length) hl hlo hcap (by rw [List.length_take]; omega) (fun i u hu => ⟨(hs i u (hsub i u hu)).1, nohit _⟩) fun i y u hy hu => ?_
      have hi : i < l.length := Nat.lt_of_lt_of_le (List.getElem?_eq_some_iff.1 hy).1 hn
      exact ih i _ y (List.getElem?_eq_getElem hi) hy u (hr i _ u (List.getElem?_eq_getElem hi) (hsub i u hu))
  | fn f a b a' b' hn hn' h1 h2 ih1 ih2 =>
    intro u hu
    cases hu with
    | fn _ _ _ fs cs hf hc k1 k2 =>
      refine .fn f a' b' fs cs (by omega) (by omega) (fun i y u hy hu => ?_) (fun i y u hy hu => ?_)
      · have hi : i < a.length := by rw [← hn]; exact (List.getElem?_eq_some_iff.1 hy).1
        exact ih1 i _ y (List.getElem?_eq_getElem hi) hy u (k1 i _ u (List.getElem?_eq_getElem hi) hu)
      · have hi : i < b.length := by rw [← hn']; exact (List.getElem?_eq_some_iff.1 hy).1
        exact ih2 i _ y (List.getElem?_eq_getElem hi) hy u (k2 i _ u (List.getElem?_eq_getElem hi) hu)
  | agg l cs hn hz ih =>
    intro u hu
    cases hu with
    | agg _ us hn' hr =>
      refine .agg cs us (by omega) fun i y u hy hu => ?_
      have hi : i < l.length := by rw [← hn]; exact (List.getElem?_eq_some_iff.1 hy).1
      exact ih i _ y (List.getElem?_eq_getElem hi) hy u (hr i _ u (List.getElem?_eq_getElem hi) hu)

theorem frz_list {args args' : List AV} (hn : args'.length = args.length) (h : ∀ (i : Nat) (x y : AV), args[i]? = some x → args'[i]? = some y → Frz H x y) {us : List Value} (hH : HRel e H w) (hL : LRel e w args us) : LRel Emb.empty w args' us := by
  refine ⟨by rw [hL.1, hn], fun i y u hy hu => ?_⟩
  have hi : i < args.length := by rw [← hn]; exact (List.getElem?_eq_some_iff.1 hy).1
  exact (h i _ y (List.getElem?_eq_getElem hi) hy).rel hH u (hL.2 i _ u (List.getElem?_eq_getElem hi) hu)

/-! ### Loops -/
theorem swp_loop {b : ACode} {Q : AExit → ASt → Prop} (I : Nat → ASt → Prop) {k : Nat} {st : ASt} (h0 : I k st)
    (hstep : ∀ k st, I k st → swp P b (thenQ (fun st' => ∃ k', k' < k ∧ I k' st') Q) st) : swp P (.loop b) Q st := by
  have key : ∀ n k st, k < n → I k st → loopN (swp P b) Q n st := by
    intro n
    induction n with
    | zero => intro k st h; omega
    | succ n ih =>
      intro k st hk hi
      refine swp_mono b (hstep k st hi) fun x st' h => ?_
      cases x with
      | normal => obtain ⟨k', h1, h2⟩ := h; exact ih k' st' (by omega) h2
      | ret => exact h
      | exit id => exact h
  exact ⟨k + 1, key (k + 1) k st (Nat.lt_succ_self k) h0⟩

end
end Go.Proofs.Ytooaiddfokbffaa.E

/- Steps of code over abstract states, as equations. Conditions: none. -/
set_option linter.unusedVariables false
set_option linter.unusedSimpArgs false
namespace Go.Proofs.Ytooaiddfokbffaa.E
open Go

section
variable {P : Program} {Q : AExit → ASt → Prop} {K : ASt → Prop} {st : ASt} {tm : Nat → AV} {H : AHeap}

theorem s_skip : swp P .skip Q st = Q .normal st := rfl
theorem s_ret : swp P .ret Q st = Q .ret st := rfl
theorem s_exit (id : Nat) : swp P (.exit id) Q st = Q (.exit id) st := rfl
theorem s_ops (l : List AI) : swp P (.ops l) Q st = swpI P l (Q .normal) st := rfl
theorem s_draw (l : List DItem) : swp P (.draw l) Q st = swpD P [] l (Q .normal) st := rfl
theorem s_seq (a b : ACode) : swp P (.seq a b) Q st = swp P a (thenQ (swp P b Q) Q) st := rfl
theorem s_block (id : Nat) (b : ACode) : swp P (.block id b) Q st = swp P b (inBlockQ id Q) st := rfl
theorem i_nil : swpI P [] K st = K st := rfl
theorem i_cons (i : AI) (r : List AI) : swpI P (i :: r) K st = stepI P i st (swpI P r K) := rfl
theorem d_nil (dn : List AI) : swpD P dn [] K st = K st := rfl
def agO (st st' : ASt) : Option AI → Prop
  | some c => again st st' c
  | none => True
def chkP (st st' : ASt) (dn : List AI) : List Nat → Prop
  | [] => True
  | p :: r => agO st st' dn[p]? ∧ chkP st st' dn r
theorem chkP_iff {st st' : ASt} {dn : List AI} : ∀ (l : List Nat), (∀ p ∈ l, ∀ c, dn[p]? = some c → again st st' c) ↔ chkP st st' dn l
  | [] => by simp [chkP]
  | p :: r => by
    simp only [List.mem_cons, forall_eq_or_imp, chkP, chkP_iff r]
    have : (∀ c, dn[p]? = some c → again st st' c) ↔ agO st st' dn[p]? := by
      cases h : dn[p]? with
      | none => simp [agO]
      | some c => simp [agO]
    rw [this]
theorem k_nil {st st' : ASt} {dn : List AI} : chkP st st' dn [] = True := rfl
theorem k_cons {st st' : ASt} {dn : List AI} (p : Nat) (r : List Nat) : chkP st st' dn (p :: r) = (agO st st' dn[p]? ∧ chkP st st' dn r) := rfl
def agK (st st' : ASt) (d : Nat) (o : AOp) : OKind → Prop
  | .same => aop st'.tm st'.heap o = some (st.tm d, st'.heap)
  | .new => ∀ b, avBlock (st.tm d) = some b → st'.heap.get b = st.heap.get b
  | .heavy => True
theorem g_same {st st' : ASt} {d : Nat} {o : AOp} : agK st st' d o .same = (aop st'.tm st'.heap o = some (st.tm d, st'.heap)) := rfl
theorem g_new {st st' : ASt} {d : Nat} {o : AOp} : agK st st' d o .new = ∀ b, avBlock (st.tm d) = some b → st'.heap.get b = st.heap.get b := rfl
theorem g_op {st st' : ASt} {d : Nat} {o : AOp} : agO st st' (some (.op (some d) none o)) = agK st st' d o (okind o) := by
  apply propext
  simp only [agO, again, gOk, true_imp_iff]
  cases okind o <;> rfl
theorem d_cons (dn : List AI) (it : DItem) (r : List DItem) :
    swpD P dn (it :: r) K st = stepI P it.ins st fun st' => chkP st st' dn it.chk ∧ swpD P (dn ++ [it.ins]) r K st' := by
  simp only [swpD, chkP_iff]
theorem i_op {d : Option Nat} {o : AOp} {x : AV} {H' : AHeap} (h : aop tm H o = some (x, H')) : stepI P (.op d none o) ⟨tm, H⟩ K = K ⟨updO tm d x, H'⟩ := by
  apply propext
  simp only [stepI, stepV, gOk, if_true, h, AI.dst, Option.some.injEq, Prod.mk.injEq]
  exact ⟨fun ⟨_, _, ⟨e1, e2⟩, h⟩ => by subst e1 e2; exact h, fun h => ⟨_, _, ⟨rfl, rfl⟩, h⟩⟩
def after (K : ASt → Prop) (tm : Nat → AV) (d : Option Nat) : Option (AV × AHeap) → Prop
  | some (x, H') => K ⟨updO tm d x, H'⟩
  | none => False
theorem a_some {d : Option Nat} {x : AV} {H' : AHeap} : after K tm d (some (x, H')) = K ⟨updO tm d x, H'⟩ := rfl
theorem i_run {d : Option Nat} {o : AOp} : stepI P (.op d none o) ⟨tm, H⟩ K = after K tm d (aop tm H o) := by
  cases h : aop tm H o with
  | some p => obtain ⟨x, H'⟩ := p; rw [i_op h]; rfl
  | none =>
    apply propext
    simp only [stepI, stepV, gOk, if_true, h, after]
    simp
def gOn (tm : Nat → AV) (t : Nat) (b : Bool) : Bool := abool (tm t) == some b
theorem i_runG {d : Option Nat} {t : Nat} {b : Bool} {o : AOp} : stepI P (.op d (some (t, b)) o) ⟨tm, H⟩ K = if (abool (tm t) == some b) = true then after K tm d (aop tm H o) else K ⟨updO tm d uv, H⟩ := by
  rw [← i_run (P := P)]
  by_cases hg : (abool (tm t) == some b) = true
  · rw [if_pos hg]
    simp only [stepI, stepV, gOk, hg, if_true]
    rfl
  · rw [if_neg hg]
    simp only [stepI, stepV, gOk, hg, if_false]
    rfl
def condQ (P : Program) (x y : ACode) (Q : AExit → ASt → Prop) (st : ASt) : AV → Prop
  | .v (.bool t) => if t = true then swp P x Q st else swp P y Q st
  | _ => False
theorem s_condQ (c : AArg) (x y : ACode) : swp P (.cond c x y) Q st = condQ P x y Q st (c.ev st.tm) := by
  simp only [swp]
  unfold condQ
  rfl
theorem c_true (x y : ACode) : condQ P x y Q st (.v (.bool true)) = swp P x Q st := rfl
theorem c_false (x y : ACode) : condQ P x y Q st (.v (.bool false)) = swp P y Q st := rfl
theorem i_call {d : Option Nat} {f : AArg} {args : List AArg} {fid : FuncId} {fs cs : List AV} {R : AV → AHeap → Prop} (hf : f.ev tm = .fn (.func fid) fs cs) (h : SCall P fid (fs ++ (args.map (·.ev tm) ++ cs)) H R)
    (hk : ∀ x H', R x H' → K ⟨updO tm d x, H'⟩) : stepI P (.call d none f args) ⟨tm, H⟩ K := by
  simp only [stepI, stepV, gOk, if_true]
  exact .inl ⟨fid, fs, cs, hf, h.mono hk⟩

theorem i_callG {d : Option Nat} {t : Nat} {b : Bool} {f : AArg} {args : List AArg} : stepI P (.call d (some (t, b)) f args) ⟨tm, H⟩ K = if (abool (tm t) == some b) = true then stepI P (.call d none f args) ⟨tm, H⟩ K else K ⟨updO tm d uv, H⟩ := by
  by_cases hg : (abool (tm t) == some b) = true
  · rw [if_pos hg]
    simp only [stepI, stepV, gOk, hg, if_true]
    rfl
  · rw [if_neg hg]
    simp only [stepI, stepV, gOk, hg, if_false]
    rfl
theorem i_callA {d : Option Nat} {f : AArg} {args : List AArg} {fid : FuncId} {fs cs : List AV} {azs : List AV} {R : AV → AHeap → Prop} (hf : f.ev tm = .fn (.func fid) fs cs) (ha : fs ++ (args.map (·.ev tm) ++ cs) = azs) (h : SCall P fid azs H R)
    (hk : ∀ x H', R x H' → K ⟨updO tm d x, H'⟩) : stepI P (.call d none f args) ⟨tm, H⟩ K := i_call hf (ha ▸ h) hk

theorem t_normal {st : ASt} : thenQ K Q .normal st = K st := rfl
theorem t_ret {st : ASt} : thenQ K Q .ret st = Q .ret st := rfl
theorem t_exit {id : Nat} {st : ASt} : thenQ K Q (.exit id) st = Q (.exit id) st := rfl
theorem b_normal {id : Nat} {st : ASt} : inBlockQ id Q .normal st = Q .normal st := rfl
theorem b_ret {id : Nat} {st : ASt} : inBlockQ id Q .ret st = Q .ret st := rfl
theorem b_exit {id id' : Nat} {st : ASt} : inBlockQ id Q (.exit id') st = if id' = id then Q .normal st else Q (.exit id') st := rfl

theorem upd_at (tm : Nat → AV) (d n : Nat) (x : AV) : upd tm d x n = if n = d then x else tm n := rfl
theorem ev_t (tm : Nat → AV) (n : Nat) : (AArg.t n).ev tm = tm n := rfl
theorem ev_c (tm : Nat → AV) (x : AV) : (AArg.c x).ev tm = x := rfl
theorem argTm_nil (n : Nat) : argTm [] n = uv := rfl
theorem argTm_zero (x : AV) (xs : List AV) : argTm (x :: xs) 0 = x := rfl
theorem argTm_succ (x : AV) (xs : List AV) (n : Nat) : argTm (x :: xs) (n + 1) = argTm xs n := by simp [argTm]
theorem new_next (H : AHeap) (o : AObj) : (H.new o).next = H.next + 1 := rfl
theorem set_next (H : AHeap) (b : Nat) (o : AObj) : (H.set b o).next = H.next := rfl
theorem ab_bool (b : Bool) : abool (.v (.bool b)) = some b := rfl
theorem ab_uv : abool uv = none := rfl
theorem one_int (k : IntKind) (n : Int) : AV.one (.v (.int k n)) = true := rfl
theorem one_bool (b : Bool) : AV.one (.v (.bool b)) = true := rfl
theorem one_str (b : ByteArray) : AV.one (.v (.string b)) = true := rfl
theorem one_nil (a : Option Addr) (n c : Nat) : AV.one (.v (.slice a n c)) = true := rfl
theorem one_ptr (b o : Nat) : AV.one (.ptr b o) = true := rfl
theorem one_slc (b o es n lo : Nat) (ex : Bool) : AV.one (.slc b o es n lo ex) = true := rfl
theorem one_ro (n lo : Nat) (ex : Bool) (cs : List AV) : AV.one (.ro n lo ex cs) = true := rfl
theorem one_rop (cs : List AV) (o : Nat) : AV.one (.rop cs o) = true := rfl
theorem one_fn (f : Fn) (a b : List AV) : AV.one (.fn f a b) = true := rfl
theorem ac_v (x : Value) : AV.acells (.v x) = [.v x] := rfl
theorem ac_agg (cs : List AV) : AV.acells (.agg cs) = cs := rfl
theorem ac_ptr (b o : Nat) : AV.acells (.ptr b o) = [.ptr b o] := rfl
theorem ac_slc (b o es n lo : Nat) (ex : Bool) : AV.acells (.slc b o es n lo ex) = [.slc b o es n lo ex] := rfl
theorem ac_ro (n lo : Nat) (ex : Bool) (cs : List AV) : AV.acells (.ro n lo ex cs) = [.ro n lo ex cs] := rfl
theorem ac_rop (cs : List AV) (o : Nat) : AV.acells (.rop cs o) = [.rop cs o] := rfl
theorem ac_fn (f : Fn) (a b : List AV) : AV.acells (.fn f a b) = [.fn f a b] := rfl

theorem post_ret {rs : List ARes} {R : AV → AHeap → Prop} {st : ASt} : postF rs R .ret st = ∃ vs, resAll st rs = some vs ∧ R (packR vs) st.heap := rfl
theorem post_normal {rs : List ARes} {R : AV → AHeap → Prop} {st : ASt} : postF rs R .normal st = ∃ vs, resAll st rs = some vs ∧ R (packR vs) st.heap := rfl

theorem updO_at (tm : Nat → AV) (d n : Nat) (x : AV) : updO tm (some d) x n = if n = d then x else tm n := rfl
theorem updO_no (tm : Nat → AV) (n : Nat) (x : AV) : updO tm none x n = tm n := rfl

/-! What is yet to come is not looked into. -/
@[congr] theorem g_after {r r' : Option (AV × AHeap)} {d : Option Nat} (h : r = r') : after K tm d r = after K tm d r' := by rw [h]
@[congr] theorem g_swp (c : ACode) : swp P c Q st = swp P c Q st := rfl
@[congr] theorem g_swpI (l : List AI) : swpI P l K st = swpI P l K st := rfl
@[congr] theorem g_swpD (dn : List AI) (l : List DItem) : swpD P dn l K st = swpD P dn l K st := rfl
@[congr] theorem g_stepI (i : AI) : stepI P i st K = stepI P i st K := rfl
@[congr] theorem g_thenQ (e : AExit) : thenQ K Q e st = thenQ K Q e st := rfl
@[congr] theorem g_inBlock (id : Nat) (e : AExit) : inBlockQ id Q e st = inBlockQ id Q e st := rfl
@[congr] theorem g_cond {x y : ACode} {v v' : AV} (h : v = v') : condQ P x y Q st v = condQ P x y Q st v' := by rw [h]
@[congr] theorem g_post (rs : List ARes) (R : AV → AHeap → Prop) (e : AExit) : postF rs R e st = postF rs R e st := rfl

end
end Go.Proofs.Ytooaiddfokbffaa.E

/- Terms, as trees and as rows of cells. Conditions: none. -/
set_option linter.unusedVariables false
set_option linter.unusedSimpArgs false
namespace Go.Proofs.Ytooaiddfokbffaa.E
open Go

structure Lv where
  n : Int
  vars : List (Int × Int)

inductive Tm where
  | mk (form n : Int) (hid : Bool) (name : ByteArray) (lv : List Lv) (kids : List Tm)

def Tm.form : Tm → Int | .mk f _ _ _ _ _ => f
def Tm.n : Tm → Int | .mk _ n _ _ _ _ => n
def Tm.hid : Tm → Bool | .mk _ _ h _ _ _ => h
def Tm.name : Tm → ByteArray | .mk _ _ _ s _ _ => s
def Tm.lv : Tm → List Lv | .mk _ _ _ _ l _ => l
def Tm.kids : Tm → List Tm | .mk _ _ _ _ _ k => k

abbrev aint (n : Int) : AV := .v (.int .i64 n)
abbrev abl (b : Bool) : AV := .v (.bool b)

/-- A slice's value, read only, of so many elements, with these cells. -/
def SlR (len : Nat) (x : AV) (cs : List AV) : Prop := (len = 0 ∧ x = .v (.slice none 0 0)) ∨ ∃ lo ex, x = .ro len lo ex cs ∧ len ≤ lo

def VarsR : List (Int × Int) → List AV → Prop
  | [], _ => True
  | (a, b) :: r, cs => cs.take 2 = [aint a, aint b] ∧ VarsR r (cs.drop 2)

def LvsR : List Lv → List AV → Prop
  | [], _ => True
  | l :: r, cs => (∃ vx vs, cs.take 2 = [aint l.n, vx] ∧ SlR l.vars.length vx vs ∧ VarsR l.vars vs) ∧ LvsR r (cs.drop 2)

mutual
def TmR : Tm → List AV → Prop
  | .mk f n h s lv ks, cells => ∃ lx kx ls cs, cells = [aint f, aint n, abl h, .v (.string s), lx, kx] ∧ SlR lv.length lx ls ∧ LvsR lv ls ∧ SlR ks.length kx cs ∧ KsR ks cs
def KsR : List Tm → List AV → Prop
  | [], _ => True
  | k :: ks, cs => TmR k (cs.take 6) ∧ KsR ks (cs.drop 6)
end

theorem TmR.len {t : Tm} {cells : List AV} (h : TmR t cells) : cells.length = 6 := by
  cases t
  simp only [TmR] at h
  obtain ⟨_, _, _, _, rfl, _⟩ := h
  rfl

theorem KsR.at : ∀ {ks : List Tm} {cs : List AV}, KsR ks cs → ∀ {i : Nat} {k : Tm}, ks[i]? = some k → TmR k ((cs.drop (6 * i)).take 6) ∧ 6 * i + 6 ≤ cs.length
  | [], _, _, i, k, hk => by simp at hk
  | k0 :: ks, cs, h, i, k, hk => by
    simp only [KsR] at h
    cases i with
    | zero =>
      simp only [List.getElem?_cons_zero, Option.some.injEq] at hk
      subst hk
      have := h.1.len
      rw [List.length_take] at this
      exact ⟨by simpa using h.1, by omega⟩
    | succ i =>
      obtain ⟨h1, h2⟩ := KsR.at h.2 (i := i) (k := k) (by simpa using hk)
      rw [List.drop_drop] at h1
      rw [List.length_drop] at h2
      exact ⟨by rw [show 6 * (i + 1) = 6 + 6 * i by omega]; exact h1, by omega⟩

theorem alen_str (H : AHeap) (s : ByteArray) : alen H .str (.v (.string s)) = some s.size := rfl
theorem alen_ro (H : AHeap) (n lo : Nat) (ex : Bool) (cs : List AV) : alen H .slice (.ro n lo ex cs) = some n := rfl
theorem alen_slc (H : AHeap) (b off es n lo : Nat) (ex : Bool) : alen H .slice (.slc b off es n lo ex) = some n := rfl
theorem alen_nil (H : AHeap) (c : Nat) : alen H .slice (.v (.slice none 0 c)) = some 0 := rfl

theorem SlR.alen {n : Nat} {x : AV} {cs : List AV} (h : SlR n x cs) (H : AHeap) : alen H .slice x = some n := by
  rcases h with ⟨rfl, rfl⟩ | ⟨lo, ex, rfl, _⟩ <;> rfl
theorem SlR.one {n : Nat} {x : AV} {cs : List AV} (h : SlR n x cs) : x.one = true := by
  rcases h with ⟨rfl, rfl⟩ | ⟨lo, ex, rfl, _⟩ <;> rfl
theorem SlR.cells {n : Nat} {x : AV} {cs : List AV} (h : SlR n x cs) : x.acells = [x] := by
  rcases h with ⟨rfl, rfl⟩ | ⟨lo, ex, rfl, _⟩ <;> rfl
theorem SlR.aix {n : Nat} {x : AV} {cs : List AV} (h : SlR n x cs) (es : Nat) {i : Nat} (hi : i < n) : aix es (i : Int) x = some (.rop cs (i * es)) := by
  rcases h with ⟨rfl, rfl⟩ | ⟨lo, ex, rfl, _⟩
  · omega
  · simp only [E.aix]
    rw [if_pos (by omega)]
    simp
theorem KsR.load {ks : List Tm} {cs : List AV} (h : KsR ks cs) {i : Nat} {k : Tm} (hk : ks[i]? = some k) : ∃ cells, TmR k cells ∧ i * 6 + 6 ≤ cs.length ∧ (cs.drop (i * 6)).take 6 = cells := by
  obtain ⟨h1, h2⟩ := h.at hk
  exact ⟨_, h1, by omega, by rw [show i * 6 = 6 * i by omega]⟩

theorem TmR.six {t : Tm} {cells : List AV} (h : TmR t cells) : ∃ lx kx ls cs, cells = [aint t.form, aint t.n, abl t.hid, .v (.string t.name), lx, kx] ∧ SlR t.lv.length lx ls ∧ LvsR t.lv ls ∧ SlR t.kids.length kx cs ∧ KsR t.kids cs := by
  cases t
  simp only [TmR] at h
  exact h

theorem LvsR.at : ∀ {ls : List Lv} {cs : List AV}, LvsR ls cs → ∀ {i : Nat} {l : Lv}, ls[i]? = some l → ∃ vx vs, i * 2 + 2 ≤ cs.length ∧ (cs.drop (i * 2)).take 2 = [aint l.n, vx] ∧ SlR l.vars.length vx vs ∧ VarsR l.vars vs
  | [], _, _, i, l, hk => by simp at hk
  | l0 :: ls, cs, h, i, l, hk => by
    simp only [LvsR] at h
    cases i with
    | zero =>
      simp only [List.getElem?_cons_zero, Option.some.injEq] at hk
      subst hk
      obtain ⟨⟨vx, vs, h1, h2, h3⟩, _⟩ := h
      have := congrArg List.length h1
      rw [List.length_take] at this
      simp at this
      exact ⟨vx, vs, by omega, by simpa using h1, h2, h3⟩
    | succ i =>
      obtain ⟨vx, vs, h1, h2, h3, h4⟩ := LvsR.at h.2 (i := i) (l := l) (by simpa using hk)
      rw [List.drop_drop] at h2
      rw [List.length_drop] at h1
      exact ⟨vx, vs, by omega, by rw [show (i + 1) * 2 = 2 + i * 2 by omega]; exact h2, h3, h4⟩

mutual
def Tm.All (p : Tm → Prop) : Tm → Prop
  | .mk f n h s lv ks => p (.mk f n h s lv ks) ∧ Tm.AllL p ks
def Tm.AllL (p : Tm → Prop) : List Tm → Prop
  | [] => True
  | k :: ks => Tm.All p k ∧ Tm.AllL p ks
end
theorem Tm.AllL.mem {p : Tm → Prop} : ∀ {ks : List Tm}, Tm.AllL p ks → ∀ k ∈ ks, Tm.All p k
  | [], _, k, hk => by cases hk
  | k0 :: ks, h, k, hk => by
    simp only [Tm.AllL] at h
    rcases List.mem_cons.1 hk with hk | hk
    · rw [hk]; exact h.1
    · exact Tm.AllL.mem h.2 k hk

/-! ### Is a term not too long, nor too high? -/
mutual
def fitT (c high : Int) : Tm → Bool × Int
  | .mk _ _ _ _ _ ks => if c + 1 > 20000 ∨ high > 500 then (false, c + 1) else fitK (c + 1) (high + 1) ks
def fitK (c high : Int) : List Tm → Bool × Int
  | [] => (true, c)
  | k :: ks => if (fitT c high k).1 = true then fitK (fitT c high k).2 high ks else (false, (fitT c high k).2)
end

end Go.Proofs.Ytooaiddfokbffaa.E

/- The code of functions, over abstract states. Conditions: none. -/
set_option maxRecDepth 100000
set_option linter.unusedVariables false
namespace Go.Proofs.Ytooaiddfokbffaa.E
open Go Go.Proofs
def c3 : AFn := ⟨[(.t 6)], (.seq (.ops [(.op (some 3) none (.box (.t 0))), (.op (some 6) none (.move (.c (.v (.bool false)))))]) (.seq (.ops [(.call (some 17) none (.c (.fn (.func 14) [] [])) []), (.op (some 7) none (.move (.t 17)))]) (.seq (.ops [(.op (some 18) none (.load true 6 (.t 3))), (.call (some 19) none (.c (.fn (.func 15) [] [])) [(.t 18)]), (.op (some 8) none (.move (.t 19)))]) (.seq (.seq (.ops [(.op (some 20) none (.move (.t 7))), (.op (some 21) none (.not (.t 20))), (.op (some 22) none (.move (.t 21))), (.op (some 23) (some (22, false)) (.move (.t 8))), (.op (some 24) none (.pick (.t 22) (.c (.v (.bool true))) (.t 23)))]) (.cond (.t 24) (.seq (.ops [(.op (some 25) none (.move (.t 7))), (.op (some 6) none (.move (.t 25)))]) .ret) .skip)) (.seq (.ops [(.op (some 26) none (.load true 6 (.t 3))), (.call (some 27) none (.c (.fn (.func 16) [] [])) [(.t 26)]), (.op (some 9) none (.alloc [(.v (.int .i64 0)), (.v (.int .i64 0)), (.v (.bool false)), (.v (.string (ByteArray.mk #[]))), (.v (.slice none 0 0)), (.v (.slice none 0 0))])), (.op none none (.store 6 (.t 9) (.t 27)))]) (.seq (.ops [(.op (some 29) none (.load true 6 (.t 9))), (.op (some 30) none (.move (.t 1))), (.op (some 31) none (.move (.t 2))), (.call (some 32) none (.c (.fn (.func 17) [] [])) [(.t 29), (.t 30), (.t 31)]), (.op (some 28) none (.move (.t 32))), (.op (some 33) none (.ext (.t 28) 0)), (.op (some 34) none (.ext (.t 28) 1)), (.op (some 10) none (.alloc [(.v (.int .i64 0)), (.v (.int .i64 0)), (.v (.bool false)), (.v (.string (ByteArray.mk #[]))), (.v (.slice none 0 0)), (.v (.slice none 0 0))])), (.op none none (.store 6 (.t 10) (.t 33))), (.op (some 11) none (.move (.t 34)))]) (.seq (.ops [(.op (some 36) none (.load true 6 (.t 3))), (.call (some 37) none (.c (.fn (.func 17) [] [])) [(.t 36), (.c (.v (.int .i64 0))), (.c (.v (.int .i64 1)))]), (.op (some 35) none (.move (.t 37))), (.op (some 38) none (.ext (.t 35) 0)), (.op (some 39) none (.ext (.t 35) 1)), (.op (some 12) none (.alloc [(.v (.int .i64 0)), (.v (.int .i64 0)), (.v (.bool false)), (.v (.string (ByteArray.mk #[]))), (.v (.slice none 0 0)), (.v (.slice none 0 0))])), (.op none none (.store 6 (.t 12) (.t 38))), (.op (some 13) none (.move (.t 39)))]) (.seq (.ops [(.op (some 40) none (.load true 6 (.t 12))), (.call (some 41) none (.c (.fn (.func 18) [] [])) [(.t 40)])]) (.seq (.ops [(.op (some 43) none (.load true 6 (.t 3))), (.op (some 44) none (.move (.t 1))), (.op (some 45) none (.move (.t 2))), (.call (some 46) none (.c (.fn (.func 19) [] [])) [(.t 43), (.t 44), (.t 45)]), (.op (some 42) none (.move (.t 46))), (.op (some 47) none (.ext (.t 42) 0)), (.op (some 48) none (.ext (.t 42) 1)), (.op (some 14) none (.alloc [(.v (.int .i64 0)), (.v (.int .i64 0)), (.v (.bool false)), (.v (.string (ByteArray.mk #[]))), (.v (.slice none 0 0)), (.v (.slice none 0 0))])), (.op none none (.store 6 (.t 14) (.t 47))), (.op (some 15) none (.move (.t 48)))]) (.seq (.ops [(.op (some 49) none (.load true 6 (.t 9))), (.op (some 50) none (.load true 6 (.t 3))), (.call (some 51) none (.c (.fn (.func 20) [] [])) [(.t 49), (.t 50)]), (.op (some 16) none (.move (.t 51)))]) (.seq (.ops [(.op (some 52) none (.move (.t 16))), (.op (some 53) none (.move (.t 52))), (.op (some 54) (some (53, true)) (.move (.t 11))), (.call (some 55) (some (53, true)) (.c (.fn (.func 21) [] [])) [(.t 54)]), (.op (some 56) (some (53, true)) (.move (.t 15))), (.op (some 57) (some (53, true)) (.ibin .eql (.t 55) (.t 56))), (.op (some 58) none (.pick (.t 53) (.t 57) (.c (.v (.bool false))))), (.op (some 59) none (.move (.t 58))), (.op (some 60) (some (59, true)) (.load true 6 (.t 10))), (.op (some 61) (some (59, true)) (.load true 6 (.t 14))), (.call (some 62) (some (59, true)) (.c (.fn (.func 22) [] [])) [(.t 60), (.t 61)]), (.op (some 63) none (.pick (.t 59) (.t 62) (.c (.v (.bool false))))), (.op (some 6) none (.move (.t 63)))]) .ret)))))))))))⟩
theorem cf3 : compFn Try.prog 3 [] = some c3 := by kernel_rfl
def c4 : AFn := ⟨[(.t 4)], (.seq (.ops [(.op (some 4) none (.move (.c (.v (.bool false)))))]) (.seq (.ops [(.call (some 15) none (.c (.fn (.func 14) [] [])) []), (.op (some 5) none (.move (.t 15)))]) (.seq (.seq (.ops [(.op (some 16) none (.move (.t 5))), (.op (some 17) none (.not (.t 16))), (.op (some 18) none (.move (.t 17))), (.op (some 19) (some (18, false)) (.move (.t 0))), (.op (some 20) (some (18, false)) (.ibin .lss (.t 19) (.c (.v (.int .i64 1))))), (.op (some 21) none (.pick (.t 18) (.c (.v (.bool true))) (.t 20))), (.op (some 22) none (.move (.t 21))), (.op (some 23) (some (22, false)) (.move (.t 0))), (.op (some 24) (some (22, false)) (.ibin .gtr (.t 23) (.c (.v (.int .i64 20010))))), (.op (some 25) none (.pick (.t 22) (.c (.v (.bool true))) (.t 24))), (.op (some 26) none (.move (.t 25))), (.op (some 27) (some (26, false)) (.move (.t 1))), (.op (some 28) (some (26, false)) (.move (.t 27))), (.op (some 29) (some (28, true)) (.move (.t 0))), (.op (some 30) (some (28, true)) (.ibin .gtr (.t 29) (.c (.v (.int .i64 600))))), (.op (some 31) (some (26, false)) (.pick (.t 28) (.t 30) (.c (.v (.bool false))))), (.op (some 32) none (.pick (.t 26) (.c (.v (.bool true))) (.t 31)))]) (.cond (.t 32) (.seq (.ops [(.op (some 33) none (.move (.t 5))), (.op (some 4) none (.move (.t 33)))]) .ret) .skip)) (.seq (.ops [(.call (some 34) none (.c (.fn (.func 23) [] [])) [(.c (.v (.int .i64 0)))]), (.op (some 6) none (.alloc [(.v (.int .i64 0)), (.v (.int .i64 0)), (.v (.bool false)), (.v (.string (ByteArray.mk #[]))), (.v (.slice none 0 0)), (.v (.slice none 0 0))])), (.op none none (.store 6 (.t 6) (.t 34)))]) (.seq (.seq (.ops [(.op (some 35) none (.move (.t 1)))]) (.cond (.t 35) (.seq (.seq (.ops [(.op (some 7) none (.move (.c (.v (.int .i64 1)))))]) (.block 0 (.loop (.seq (.seq (.ops [(.op (some 36) none (.move (.t 7))), (.op (some 37) none (.move (.t 0))), (.op (some 38) none (.ibin .lss (.t 36) (.t 37)))]) (.cond (.t 38) .skip (.exit 0))) (.seq (.block 1 (.ops [(.op (some 41) none (.load true 6 (.t 6))), (.op (some 42) none (.buildS 6 1 [(.v (.int .i64 0)), (.v (.int .i64 0)), (.v (.bool false)), (.v (.string (ByteArray.mk #[]))), (.v (.slice none 0 0)), (.v (.slice none 0 0))] [(0, (6, (.t 41)))])), (.op (some 43) none (.build [(.v (.int .i64 0)), (.v (.int .i64 0)), (.v (.bool false)), (.v (.string (ByteArray.mk #[]))), (.v (.slice none 0 0)), (.v (.slice none 0 0))] [(0, (1, (.c (.v (.int .i64 8))))), (5, (1, (.t 42)))])), (.op none none (.store 6 (.t 6) (.t 43)))])) (.ops [(.op (some 39) none (.move (.t 7))), (.op (some 40) none (.ibin .add (.t 39) (.c (.v (.int .i64 1))))), (.op (some 7) none (.move (.t 40)))])))))) (.seq (.ops [(.op (some 44) none (.load true 6 (.t 6))), (.call (some 45) none (.c (.fn (.func 24) [] [])) [(.t 44)]), (.op (some 8) none (.move (.t 45)))]) (.seq (.ops [(.op (some 46) none (.move (.t 8))), (.call (some 47) none (.c (.fn (.func 21) [] [])) [(.t 46)]), (.op (some 48) none (.ibin .eql (.t 47) (.c (.v (.int .i64 0))))), (.op (some 49) none (.move (.t 0))), (.op (some 50) none (.ibin .leq (.t 49) (.c (.v (.int .i64 500))))), (.op (some 51) none (.bbin false (.t 48) (.t 50))), (.op (some 52) none (.move (.t 51))), (.op (some 53) (some (52, true)) (.move (.t 0))), (.op (some 54) (some (52, true)) (.ibin .leq (.t 53) (.c (.v (.int .i64 500))))), (.op (some 55) (some (52, true)) (.move (.t 54))), (.op (some 56) (some (55, false)) (.move (.t 8))), (.call (some 57) (some (55, false)) (.c (.fn (.func 21) [] [])) [(.t 56)]), (.op (some 58) (some (55, false)) (.ibin .eql (.t 57) (.c (.v (.int .i64 2))))), (.op (some 59) (some (52, true)) (.pick (.t 55) (.c (.v (.bool true))) (.t 58))), (.op (some 60) none (.pick (.t 52) (.t 59) (.c (.v (.bool false))))), (.op (some 4) none (.move (.t 60)))]) .ret))) .skip)) (.seq (.ops [(.op (some 61) none (.move (.t 0))), (.op (some 62) none (.ibin .sub (.t 61) (.c (.v (.int .i64 1))))), (.op (some 9) none (.move (.t 62)))]) (.seq (.block 2 (.loop (.seq (.seq (.ops [(.op (some 63) none (.move (.t 9))), (.op (some 64) none (.ibin .gtr (.t 63) (.c (.v (.int .i64 1)))))]) (.cond (.t 64) .skip (.exit 2))) (.block 3 (.seq (.ops [(.op (some 65) none (.move (.t 9))), (.op (some 66) none (.ibin .sub (.t 65) (.c (.v (.int .i64 1))))), (.op (some 10) none (.move (.t 66)))]) (.seq (.seq (.ops [(.op (some 67) none (.move (.t 10))), (.op (some 68) none (.ibin .gtr (.t 67) (.c (.v (.int .i64 200)))))]) (.cond (.t 68) (.ops [(.op (some 10) none (.move (.c (.v (.int .i64 200)))))]) .skip)) (.seq (.ops [(.call (some 69) none (.c (.fn (.func 23) [] [])) [(.c (.v (.int .i64 0)))]), (.op (some 11) none (.alloc [(.v (.int .i64 0)), (.v (.int .i64 0)), (.v (.bool false)), (.v (.string (ByteArray.mk #[]))), (.v (.slice none 0 0)), (.v (.slice none 0 0))])), (.op none none (.store 6 (.t 11) (.t 69)))]) (.seq (.seq (.ops [(.op (some 12) none (.move (.c (.v (.int .i64 1)))))]) (.block 4 (.loop (.seq (.seq (.ops [(.op (some 70) none (.move (.t 12))), (.op (some 71) none (.move (.t 10))), (.op (some 72) none (.ibin .lss (.t 70) (.t 71)))]) (.cond (.t 72) .skip (.exit 4))) (.seq (.block 5 (.ops [(.op (some 75) none (.load true 6 (.t 11))), (.op (some 76) none (.buildS 6 1 [(.v (.int .i64 0)), (.v (.int .i64 0)), (.v (.bool false)), (.v (.string (ByteArray.mk #[]))), (.v (.slice none 0 0)), (.v (.slice none 0 0))] [(0, (6, (.t 75)))])), (.op (some 77) none (.build [(.v (.int .i64 0)), (.v (.int .i64 0)), (.v (.bool false)), (.v (.string (ByteArray.mk #[]))), (.v (.slice none 0 0)), (.v (.slice none 0 0))] [(0, (1, (.c (.v (.int .i64 8))))), (5, (1, (.t 76)))])), (.op none none (.store 6 (.t 11) (.t 77)))])) (.ops [(.op (some 73) none (.move (.t 12))), (.op (some 74) none (.ibin .add (.t 73) (.c (.v (.int .i64 1))))), (.op (some 12) none (.move (.t 74)))])))))) (.seq (.ops [(.op (some 78) none (.load true 6 (.t 6))), (.op (some 79) none (.load true 6 (.t 11))), (.call (some 80) none (.c (.fn (.func 25) [] [])) [(.t 78), (.t 79)]), (.op none none (.store 6 (.t 6) (.t 80)))]) (.ops [(.op (some 81) none (.move (.t 9))), (.op (some 82) none (.move (.t 10))), (.op (some 83) none (.ibin .sub (.t 81) (.t 82))), (.op (some 84) none (.ibin .sub (.t 83) (.c (.v (.int .i64 1))))), (.op (some 9) none (.move (.t 84)))])))))))))) (.seq (.ops [(.op (some 85) none (.load true 6 (.t 6))), (.call (some 86) none (.c (.fn (.func 26) [] [])) [(.t 85)]), (.op (some 13) none (.move (.t 86)))]) (.seq (.ops [(.op (some 87) none (.load true 6 (.t 6))), (.call (some 88) none (.c (.fn (.func 24) [] [])) [(.t 87)]), (.op (some 14) none (.move (.t 88)))]) (.seq (.seq (.ops [(.op (some 89) none (.move (.t 13))), (.op (some 90) none (.ibin .gtr (.t 89) (.c (.v (.int .i64 0)))))]) (.cond (.t 90) (.seq (.ops [(.op (some 91) none (.move (.t 14))), (.call (some 92) none (.c (.fn (.func 21) [] [])) [(.t 91)]), (.op (some 93) none (.ibin .eql (.t 92) (.c (.v (.int .i64 0))))), (.op (some 94) none (.move (.t 93))), (.op (some 95) (some (94, true)) (.load true 6 (.t 6))), (.call (some 96) (some (94, true)) (.c (.fn (.func 27) [] [])) [(.t 95)]), (.op (some 97) (some (94, true)) (.move (.t 13))), (.op (some 98) (some (94, true)) (.ibin .eql (.t 96) (.t 97))), (.op (some 99) none (.pick (.t 94) (.t 98) (.c (.v (.bool false))))), (.op (some 4) none (.move (.t 99)))]) .ret) .skip)) (.seq (.ops [(.op (some 100) none (.move (.t 14))), (.call (some 101) none (.c (.fn (.func 21) [] [])) [(.t 100)]), (.op (some 102) none (.ibin .eql (.t 101) (.c (.v (.int .i64 2))))), (.op (some 4) none (.move (.t 102)))]) .ret)))))))))))⟩
theorem cf4 : compFn Try.prog 4 [] = some c4 := by kernel_rfl
def c14 : AFn := ⟨[(.t 0)], (.seq (.ops [(.op (some 0) none (.move (.c (.v (.bool false)))))]) (.seq (.ops [(.call (some 6) none (.c (.fn (.func 52) [] [])) [(.c (.v (.string (ByteArray.mk #[99])))), (.c (.v (.slice none 0 0)))]), (.op (some 1) none (.alloc [(.v (.int .i64 0)), (.v (.int .i64 0)), (.v (.bool false)), (.v (.string (ByteArray.mk #[]))), (.v (.slice none 0 0)), (.v (.slice none 0 0))])), (.op none none (.store 6 (.t 1) (.t 6)))]) (.seq (.draw [⟨(.op (some 11) none (.load true 6 (.t 1))), []⟩, ⟨(.op (some 2) none (.alloc [(.v (.int .i64 0)), (.v (.int .i64 0)), (.v (.bool false)), (.v (.string (ByteArray.mk #[]))), (.v (.slice none 0 0)), (.v (.slice none 0 0))])), []⟩, ⟨(.call (some 8) none (.c (.fn (.func 23) [] [])) [(.c (.v (.int .i64 0)))]), [0, 1]⟩, ⟨(.call (some 9) none (.c (.fn (.func 73) [] [])) [(.c (.v (.int .i64 1)))]), [0, 1]⟩, ⟨(.call (some 10) none (.c (.fn (.func 72) [] [])) [(.t 8), (.t 9)]), [0, 1]⟩, ⟨(.call (some 12) none (.c (.fn (.func 45) [] [])) [(.t 10), (.c (.v (.int .i64 0))), (.t 11)]), [1]⟩, ⟨(.op (some 7) none (.move (.t 12))), []⟩, ⟨(.op (some 13) none (.ext (.t 7) 0)), []⟩, ⟨(.op (some 14) none (.ext (.t 7) 1)), []⟩, ⟨(.op none none (.store 6 (.t 2) (.t 13))), [8]⟩, ⟨(.op (some 3) none (.move (.t 14))), []⟩]) (.seq (.ops [(.call (some 16) none (.c (.fn (.func 23) [] [])) [(.c (.v (.int .i64 0)))]), (.call (some 17) none (.c (.fn (.func 73) [] [])) [(.c (.v (.int .i64 0)))]), (.call (some 18) none (.c (.fn (.func 73) [] [])) [(.c (.v (.int .i64 1)))]), (.call (some 19) none (.c (.fn (.func 25) [] [])) [(.t 17), (.t 18)]), (.call (some 20) none (.c (.fn (.func 72) [] [])) [(.t 16), (.t 19)]), (.call (some 21) none (.c (.fn (.func 17) [] [])) [(.t 20), (.c (.v (.int .i64 0))), (.c (.v (.int .i64 2)))]), (.op (some 15) none (.move (.t 21))), (.op (some 22) none (.ext (.t 15) 0)), (.op (some 23) none (.ext (.t 15) 1)), (.op (some 4) none (.alloc [(.v (.int .i64 0)), (.v (.int .i64 0)), (.v (.bool false)), (.v (.string (ByteArray.mk #[]))), (.v (.slice none 0 0)), (.v (.slice none 0 0))])), (.op none none (.store 6 (.t 4) (.t 22))), (.op (some 5) none (.move (.t 23)))]) (.seq (.draw [⟨(.op (some 24) none (.move (.t 3))), []⟩, ⟨(.call (some 25) none (.c (.fn (.func 21) [] [])) [(.t 24)]), []⟩, ⟨(.op (some 26) none (.ibin .eql (.t 25) (.c (.v (.int .i64 0))))), []⟩, ⟨(.op (some 27) none (.move (.t 26))), []⟩, ⟨(.op (some 28) (some (27, true)) (.load true 6 (.t 2))), []⟩, ⟨(.op (some 30) (some (27, true)) (.load true 6 (.t 1))), []⟩, ⟨(.call (some 29) (some (27, true)) (.c (.fn (.func 23) [] [])) [(.c (.v (.int .i64 0)))]), [4, 5]⟩, ⟨(.call (some 31) (some (27, true)) (.c (.fn (.func 72) [] [])) [(.t 29), (.t 30)]), [4]⟩, ⟨(.call (some 32) (some (27, true)) (.c (.fn (.func 22) [] [])) [(.t 28), (.t 31)]), []⟩, ⟨(.op (some 33) none (.pick (.t 27) (.t 32) (.c (.v (.bool false))))), []⟩, ⟨(.op (some 34) none (.move (.t 33))), []⟩, ⟨(.op (some 35) (some (34, true)) (.move (.t 5))), []⟩, ⟨(.call (some 36) (some (34, true)) (.c (.fn (.func 21) [] [])) [(.t 35)]), []⟩, ⟨(.op (some 37) (some (34, true)) (.ibin .eql (.t 36) (.c (.v (.int .i64 0))))), []⟩, ⟨(.op (some 38) none (.pick (.t 34) (.t 37) (.c (.v (.bool false))))), []⟩, ⟨(.op (some 39) none (.move (.t 38))), []⟩, ⟨(.op (some 40) (some (39, true)) (.load true 6 (.t 4))), []⟩, ⟨(.call (some 41) (some (39, true)) (.c (.fn (.func 23) [] [])) [(.c (.v (.int .i64 0)))]), [16]⟩, ⟨(.call (some 42) (some (39, true)) (.c (.fn (.func 73) [] [])) [(.c (.v (.int .i64 0)))]), [16]⟩, ⟨(.call (some 43) (some (39, true)) (.c (.fn (.func 73) [] [])) [(.c (.v (.int .i64 3)))]), [16]⟩, ⟨(.call (some 44) (some (39, true)) (.c (.fn (.func 25) [] [])) [(.t 42), (.t 43)]), [16]⟩, ⟨(.call (some 45) (some (39, true)) (.c (.fn (.func 72) [] [])) [(.t 41), (.t 44)]), [16]⟩, ⟨(.call (some 46) (some (39, true)) (.c (.fn (.func 22) [] [])) [(.t 40), (.t 45)]), []⟩, ⟨(.op (some 47) none (.pick (.t 39) (.t 46) (.c (.v (.bool false))))), []⟩, ⟨(.op (some 48) none (.move (.t 47))), []⟩, ⟨(.op (some 49) (some (48, true)) (.load true 6 (.t 2))), []⟩, ⟨(.call (some 50) (some (48, true)) (.c (.fn (.func 27) [] [])) [(.t 49)]), []⟩, ⟨(.op (some 51) (some (48, true)) (.ibin .eql (.t 50) (.c (.v (.int .i64 3))))), []⟩, ⟨(.op (some 52) none (.pick (.t 48) (.t 51) (.c (.v (.bool false))))), []⟩, ⟨(.op (some 0) none (.move (.t 52))), []⟩]) .ret)))))⟩
theorem cf14 : compFn Try.prog 14 [(2, [(3, []), (8, []), (0, [0, 1]), (1, [0, 1]), (2, [0, 1]), (4, [1]), (5, []), (6, []), (7, []), (9, [8]), (10, [])]), (4, [(0, []), (1, []), (2, []), (3, []), (4, []), (6, []), (5, [4, 5]), (7, [4]), (8, []), (9, []), (10, []), (11, []), (12, []), (13, []), (14, []), (15, []), (16, []), (17, [16]), (18, [16]), (19, [16]), (20, [16]), (21, [16]), (22, []), (23, []), (24, []), (25, []), (26, []), (27, []), (28, []), (29, [])])] = some c14 := by kernel_rfl
def c15 : AFn := ⟨[(.t 2)], (.seq (.ops [(.op (some 1) none (.box (.t 0))), (.op (some 2) none (.move (.c (.v (.bool false)))))]) (.seq (.ops [(.op (some 3) none (.load true 6 (.t 1))), (.call (some 4) none (.c (.fn (.func 74) [] [])) [(.t 3), (.c (.v (.int .i64 3000))), (.c (.v (.int .i64 0)))]), (.op (some 5) none (.ibin .gtr (.t 4) (.c (.v (.int .i64 3000))))), (.op (some 2) none (.move (.t 5)))]) .ret))⟩
theorem cf15 : compFn Try.prog 15 [] = some c15 := by kernel_rfl
def c16 : AFn := ⟨[(.c 2 6 true)], (.seq (.ops [(.op (some 1) none (.box (.t 0))), (.op (some 2) none (.alloc [(.v (.int .i64 0)), (.v (.int .i64 0)), (.v (.bool false)), (.v (.string (ByteArray.mk #[]))), (.v (.slice none 0 0)), (.v (.slice none 0 0))]))]) (.seq (.ops [(.op (some 5) none (.fld 5 (.t 1))), (.op (some 6) none (.load false 1 (.t 5))), (.op (some 7) none (.append 6 88 (.c (.v (.slice none 0 0))) (.t 6))), (.op (some 3) none (.move (.t 7)))]) (.seq (.seq (.ops [(.op (some 4) none (.move (.c (.v (.int .i64 0)))))]) (.block 0 (.loop (.seq (.seq (.ops [(.op (some 8) none (.move (.t 4))), (.op (some 9) none (.move (.t 3))), (.op (some 10) none (.len .slice (.t 9))), (.op (some 11) none (.ibin .lss (.t 8) (.t 10)))]) (.cond (.t 11) .skip (.exit 0))) (.seq (.block 1 (.ops [(.op (some 14) none (.move (.t 3))), (.op (some 15) none (.move (.t 4))), (.op (some 16) none (.move (.t 3))), (.op (some 17) none (.move (.t 4))), (.op (some 18) none (.idx 6 (.t 16) (.t 17))), (.op (some 19) none (.load true 6 (.t 18))), (.call (some 20) none (.c (.fn (.func 16) [] [])) [(.t 19)]), (.op (some 21) none (.idx 6 (.t 14) (.t 15))), (.op none none (.store 6 (.t 21) (.t 20)))])) (.ops [(.op (some 12) none (.move (.t 4))), (.op (some 13) none (.ibin .add (.t 12) (.c (.v (.int .i64 1))))), (.op (some 4) none (.move (.t 13)))])))))) (.seq (.ops [(.op (some 22) none (.move (.t 3))), (.op (some 23) none (.build [(.v (.int .i64 0)), (.v (.int .i64 0)), (.v (.bool false)), (.v (.string (ByteArray.mk #[]))), (.v (.slice none 0 0)), (.v (.slice none 0 0))] [(0, (1, (.c (.v (.int .i64 (-71))))))])), (.op (some 24) none (.buildS 6 1 [(.v (.int .i64 0)), (.v (.int .i64 0)), (.v (.bool false)), (.v (.string (ByteArray.mk #[]))), (.v (.slice none 0 0)), (.v (.slice none 0 0))] [(0, (6, (.t 23)))])), (.op (some 25) none (.append 6 88 (.t 22) (.t 24))), (.op (some 26) none (.move (.t 3))), (.op (some 27) none (.len .slice (.t 26))), (.op (some 28) none (.slice 6 (.t 25) none (some (.t 27)) none)), (.op (some 29) none (.fld 5 (.t 1))), (.op none none (.store 1 (.t 29) (.t 28)))]) (.seq (.ops [(.op (some 30) none (.load true 6 (.t 1))), (.op none none (.store 6 (.t 2) (.t 30)))]) .ret)))))⟩
theorem cf16 : compFn Try.prog 16 [] = some c16 := by kernel_rfl
def c17 : AFn := ⟨[(.c 6 6 true), (.t 7)], (.seq (.ops [(.op (some 3) none (.box (.t 0))), (.op (some 6) none (.alloc [(.v (.int .i64 0)), (.v (.int .i64 0)), (.v (.bool false)), (.v (.string (ByteArray.mk #[]))), (.v (.slice none 0 0)), (.v (.slice none 0 0))])), (.op (some 7) none (.move (.c (.v (.int .i64 0)))))]) (.seq (.seq (.ops [(.op (some 9) none (.load true 6 (.t 3))), (.call (some 10) none (.c (.fn (.func 24) [] [])) [(.t 9)]), (.op (some 8) none (.move (.t 10)))]) (.seq (.ops [(.op (some 11) none (.move (.t 8))), (.op (some 12) none (.ibin .neq (.t 11) (.c (.v (.int .i64 0)))))]) (.cond (.t 12) (.seq (.ops [(.op (some 13) none (.build [(.v (.int .i64 0)), (.v (.int .i64 0)), (.v (.bool false)), (.v (.string (ByteArray.mk #[]))), (.v (.slice none 0 0)), (.v (.slice none 0 0))] [])), (.op (some 14) none (.move (.t 8))), (.op none none (.store 6 (.t 6) (.t 13))), (.op (some 7) none (.move (.t 14)))]) .ret) .skip))) (.seq (.seq (.ops [(.op (some 15) none (.move (.t 1))), (.op (some 16) none (.ibin .lss (.t 15) (.c (.v (.int .i64 0))))), (.op (some 17) none (.move (.t 16))), (.op (some 18) (some (17, false)) (.move (.t 2))), (.op (some 19) (some (17, false)) (.ibin .lss (.t 18) (.c (.v (.int .i64 0))))), (.op (some 20) none (.pick (.t 17) (.c (.v (.bool true))) (.t 19))), (.op (some 21) none (.move (.t 20))), (.op (some 22) (some (21, false)) (.move (.t 1))), (.op (some 23) (some (21, false)) (.ibin .gtr (.t 22) (.c (.v (.int .i64 1048576))))), (.op (some 24) none (.pick (.t 21) (.c (.v (.bool true))) (.t 23))), (.op (some 25) none (.move (.t 24))), (.op (some 26) (some (25, false)) (.move (.t 2))), (.op (some 27) (some (25, false)) (.ibin .gtr (.t 26) (.c (.v (.int .i64 1048576))))), (.op (some 28) none (.pick (.t 25) (.c (.v (.bool true))) (.t 27)))]) (.cond (.t 28) (.seq (.ops [(.op (some 29) none (.build [(.v (.int .i64 0)), (.v (.int .i64 0)), (.v (.bool false)), (.v (.string (ByteArray.mk #[]))), (.v (.slice none 0 0)), (.v (.slice none 0 0))] [])), (.op none none (.store 6 (.t 6) (.t 29))), (.op (some 7) none (.move (.c (.v (.int .i64 1)))))]) .ret) .skip)) (.seq (.ops [(.op (some 30) none (.load true 6 (.t 3))), (.op (some 31) none (.move (.t 1))), (.op (some 32) none (.move (.t 2))), (.call (some 33) none (.c (.fn (.func 77) [] [])) [(.t 30), (.t 31), (.t 32)]), (.call (some 34) none (.c (.fn (.func 76) [] [])) [(.t 33)]), (.call (some 35) none (.c (.fn (.func 75) [] [])) [(.t 34), (.c (.v (.int .i64 0)))]), (.op (some 36) none (.ext (.t 35) 0)), (.op (some 37) none (.ext (.t 35) 1)), (.op none none (.store 6 (.t 6) (.t 36))), (.op (some 7) none (.move (.t 37)))]) .ret))))⟩
theorem cf17 : compFn Try.prog 17 [] = some c17 := by kernel_rfl
def c18 : AFn := ⟨[], (.seq (.ops [(.op (some 1) none (.box (.t 0)))]) (.seq (.seq (.ops [(.op (some 2) none (.move (.c (.v (.int .i64 0)))))]) (.block 0 (.loop (.seq (.seq (.ops [(.op (some 4) none (.move (.t 2))), (.op (some 5) none (.fld 5 (.t 1))), (.op (some 6) none (.load false 1 (.t 5))), (.op (some 7) none (.len .slice (.t 6))), (.op (some 8) none (.ibin .lss (.t 4) (.t 7)))]) (.cond (.t 8) .skip (.exit 0))) (.seq (.block 1 (.seq (.ops [(.op (some 11) none (.fld 5 (.t 1))), (.op (some 12) none (.load false 1 (.t 11))), (.op (some 13) none (.move (.t 2))), (.op (some 14) none (.idx 6 (.t 12) (.t 13))), (.op (some 15) none (.load true 6 (.t 14))), (.call (some 16) none (.c (.fn (.func 18) [] [])) [(.t 15)])]) (.ops [(.op (some 17) none (.fld 5 (.t 1))), (.op (some 18) none (.load false 1 (.t 17))), (.op (some 19) none (.move (.t 2))), (.op (some 20) none (.build [(.v (.int .i64 0)), (.v (.int .i64 0)), (.v (.bool false)), (.v (.string (ByteArray.mk #[]))), (.v (.slice none 0 0)), (.v (.slice none 0 0))] [(0, (1, (.c (.v (.int .i64 (-1))))))])), (.op (some 21) none (.idx 6 (.t 18) (.t 19))), (.op none none (.store 6 (.t 21) (.t 20)))]))) (.ops [(.op (some 9) none (.move (.t 2))), (.op (some 10) none (.ibin .add (.t 9) (.c (.v (.int .i64 1))))), (.op (some 2) none (.move (.t 10)))])))))) (.seq (.ops [(.op (some 3) none (.move (.c (.v (.int .i64 0)))))]) (.block 2 (.loop (.seq (.seq (.ops [(.op (some 22) none (.move (.t 3))), (.op (some 23) none (.fld 4 (.t 1))), (.op (some 24) none (.load false 1 (.t 23))), (.op (some 25) none (.len .slice (.t 24))), (.op (some 26) none (.ibin .lss (.t 22) (.t 25)))]) (.cond (.t 26) .skip (.exit 2))) (.seq (.block 3 (.ops [(.op (some 29) none (.fld 4 (.t 1))), (.op (some 30) none (.load false 1 (.t 29))), (.op (some 31) none (.move (.t 3))), (.op (some 32) none (.build [(.v (.int .i64 0)), (.v (.slice none 0 0))] [(0, (1, (.c (.v (.int .i64 (-1))))))])), (.op (some 33) none (.idx 2 (.t 30) (.t 31))), (.op none none (.store 2 (.t 33) (.t 32)))])) (.ops [(.op (some 27) none (.move (.t 3))), (.op (some 28) none (.ibin .add (.t 27) (.c (.v (.int .i64 1))))), (.op (some 3) none (.move (.t 28)))]))))))))⟩
theorem cf18 : compFn Try.prog 18 [] = some c18 := by kernel_rfl
def c19 : AFn := ⟨[(.c 6 6 true), (.t 7)], (.seq (.ops [(.op (some 3) none (.box (.t 0))), (.op (some 6) none (.alloc [(.v (.int .i64 0)), (.v (.int .i64 0)), (.v (.bool false)), (.v (.string (ByteArray.mk #[]))), (.v (.slice none 0 0)), (.v (.slice none 0 0))])), (.op (some 7) none (.move (.c (.v (.int .i64 0)))))]) (.seq (.ops [(.op (some 9) none (.load true 6 (.t 3))), (.call (some 10) none (.c (.fn (.func 29) [] [])) [(.t 9)]), (.op (some 8) none (.move (.t 10)))]) (.seq (.seq (.ops [(.op (some 11) none (.move (.t 8))), (.op (some 12) none (.ibin .eql (.t 11) (.c (.v (.int .i64 0))))), (.op (some 13) none (.move (.t 12))), (.op (some 14) (some (13, true)) (.move (.t 1))), (.op (some 15) (some (13, true)) (.ibin .lss (.t 14) (.c (.v (.int .i64 0))))), (.op (some 16) (some (13, true)) (.move (.t 15))), (.op (some 17) (some (16, false)) (.move (.t 2))), (.op (some 18) (some (16, false)) (.ibin .lss (.t 17) (.c (.v (.int .i64 0))))), (.op (some 19) (some (13, true)) (.pick (.t 16) (.c (.v (.bool true))) (.t 18))), (.op (some 20) (some (13, true)) (.move (.t 19))), (.op (some 21) (some (20, false)) (.move (.t 1))), (.op (some 22) (some (20, false)) (.ibin .gtr (.t 21) (.c (.v (.int .i64 1048576))))), (.op (some 23) (some (13, true)) (.pick (.t 20) (.c (.v (.bool true))) (.t 22))), (.op (some 24) (some (13, true)) (.move (.t 23))), (.op (some 25) (some (24, false)) (.move (.t 2))), (.op (some 26) (some (24, false)) (.ibin .gtr (.t 25) (.c (.v (.int .i64 1048576))))), (.op (some 27) (some (13, true)) (.pick (.t 24) (.c (.v (.bool true))) (.t 26))), (.op (some 28) none (.pick (.t 13) (.t 27) (.c (.v (.bool false)))))]) (.cond (.t 28) (.ops [(.op (some 8) none (.move (.c (.v (.int .i64 1)))))]) .skip)) (.seq (.seq (.ops [(.op (some 29) none (.move (.t 8))), (.op (some 30) none (.ibin .neq (.t 29) (.c (.v (.int .i64 0)))))]) (.cond (.t 30) (.seq (.ops [(.op (some 31) none (.build [(.v (.int .i64 0)), (.v (.int .i64 0)), (.v (.bool false)), (.v (.string (ByteArray.mk #[]))), (.v (.slice none 0 0)), (.v (.slice none 0 0))] [])), (.op (some 32) none (.move (.t 8))), (.op none none (.store 6 (.t 6) (.t 31))), (.op (some 7) none (.move (.t 32)))]) .ret) .skip)) (.seq (.ops [(.op (some 33) none (.load true 6 (.t 3))), (.op (some 34) none (.move (.t 1))), (.op (some 35) none (.move (.t 2))), (.call (some 36) none (.c (.fn (.func 79) [] [])) [(.t 33), (.t 34), (.t 35)]), (.call (some 37) none (.c (.fn (.func 78) [] [])) [(.t 36)]), (.op (some 38) none (.ext (.t 37) 0)), (.op (some 39) none (.ext (.t 37) 1)), (.op none none (.store 6 (.t 6) (.t 38))), (.op (some 7) none (.move (.t 39)))]) .ret)))))⟩
theorem cf19 : compFn Try.prog 19 [] = some c19 := by kernel_rfl
def c20 : AFn := ⟨[(.t 4)], (.seq (.ops [(.op (some 2) none (.box (.t 0))), (.op (some 3) none (.box (.t 1))), (.op (some 4) none (.move (.c (.v (.bool false)))))]) (.seq (.ops [(.op (some 8) none (.fld 5 (.t 3))), (.op (some 9) none (.load false 1 (.t 8))), (.op (some 10) none (.len .slice (.t 9))), (.op (some 5) none (.move (.t 10)))]) (.seq (.seq (.ops [(.op (some 11) none (.fld 0 (.t 2))), (.op (some 12) none (.load false 1 (.t 11))), (.op (some 13) none (.fld 0 (.t 3))), (.op (some 14) none (.load false 1 (.t 13))), (.op (some 15) none (.ibin .neq (.t 12) (.t 14))), (.op (some 16) none (.move (.t 15))), (.op (some 17) (some (16, false)) (.fld 1 (.t 2))), (.op (some 18) (some (16, false)) (.load false 1 (.t 17))), (.op (some 19) (some (16, false)) (.fld 1 (.t 3))), (.op (some 20) (some (16, false)) (.load false 1 (.t 19))), (.op (some 21) (some (16, false)) (.ibin .neq (.t 18) (.t 20))), (.op (some 22) none (.pick (.t 16) (.c (.v (.bool true))) (.t 21))), (.op (some 23) none (.move (.t 22))), (.op (some 24) (some (23, false)) (.fld 2 (.t 2))), (.op (some 25) (some (23, false)) (.load false 1 (.t 24))), (.op (some 26) (some (23, false)) (.fld 2 (.t 3))), (.op (some 27) (some (23, false)) (.load false 1 (.t 26))), (.op (some 28) (some (23, false)) (.bbin true (.t 25) (.t 27))), (.op (some 29) none (.pick (.t 23) (.c (.v (.bool true))) (.t 28))), (.op (some 30) none (.move (.t 29))), (.op (some 31) (some (30, false)) (.fld 3 (.t 2))), (.op (some 32) (some (30, false)) (.load false 1 (.t 31))), (.op (some 33) (some (30, false)) (.fld 3 (.t 3))), (.op (some 34) (some (30, false)) (.load false 1 (.t 33))), (.op (some 35) (some (30, false)) (.sbin .neq (.t 32) (.t 34))), (.op (some 36) none (.pick (.t 30) (.c (.v (.bool true))) (.t 35))), (.op (some 37) none (.move (.t 36))), (.op (some 38) (some (37, false)) (.fld 5 (.t 2))), (.op (some 39) (some (37, false)) (.load false 1 (.t 38))), (.op (some 40) (some (37, false)) (.len .slice (.t 39))), (.op (some 41) (some (37, false)) (.move (.t 5))), (.op (some 42) (some (37, false)) (.ibin .neq (.t 40) (.t 41))), (.op (some 43) none (.pick (.t 37) (.c (.v (.bool true))) (.t 42))), (.op (some 44) none (.move (.t 43))), (.op (some 45) (some (44, false)) (.fld 5 (.t 2))), (.op (some 46) (some (44, false)) (.load false 1 (.t 45))), (.op (some 47) (some (44, false)) (.move (.t 5))), (.op (some 48) (some (44, false)) (.ibin .add (.t 47) (.c (.v (.int .i64 1))))), (.op (some 49) (some (44, false)) (.slice 6 (.t 46) none (some (.t 48)) none)), (.op (some 50) (some (44, false)) (.move (.t 5))), (.op (some 51) (some (44, false)) (.idx 6 (.t 49) (.t 50))), (.op (some 52) (some (44, false)) (.fld 0 (.t 51))), (.op (some 53) (some (44, false)) (.load false 1 (.t 52))), (.op (some 54) (some (44, false)) (.ibin .neq (.t 53) (.c (.v (.int .i64 (-71)))))), (.op (some 55) none (.pick (.t 44) (.c (.v (.bool true))) (.t 54)))]) (.cond (.t 55) (.seq (.ops [(.op (some 4) none (.move (.c (.v (.bool false)))))]) .ret) .skip)) (.seq (.seq (.ops [(.op (some 6) none (.move (.c (.v (.int .i64 0)))))]) (.block 0 (.loop (.seq (.seq (.ops [(.op (some 56) none (.move (.t 6))), (.op (some 57) none (.move (.t 5))), (.op (some 58) none (.ibin .lss (.t 56) (.t 57)))]) (.cond (.t 58) .skip (.exit 0))) (.seq (.block 1 (.seq (.draw [⟨(.op (some 61) none (.fld 5 (.t 2))), []⟩, ⟨(.op (some 62) none (.load false 1 (.t 61))), []⟩, ⟨(.op (some 63) none (.move (.t 6))), []⟩, ⟨(.op (some 64) none (.idx 6 (.t 62) (.t 63))), []⟩, ⟨(.op (some 65) none (.load true 6 (.t 64))), []⟩, ⟨(.op (some 66) none (.fld 5 (.t 3))), []⟩, ⟨(.op (some 67) none (.load false 1 (.t 66))), []⟩, ⟨(.op (some 68) none (.move (.t 6))), []⟩, ⟨(.op (some 69) none (.idx 6 (.t 67) (.t 68))), []⟩, ⟨(.op (some 70) none (.load true 6 (.t 69))), []⟩, ⟨(.call (some 71) none (.c (.fn (.func 20) [] [])) [(.t 65), (.t 70)]), []⟩, ⟨(.op (some 7) none (.move (.t 71))), []⟩]) (.seq (.ops [(.op (some 72) none (.move (.t 7))), (.op (some 73) none (.not (.t 72)))]) (.cond (.t 73) (.seq (.ops [(.op (some 4) none (.move (.c (.v (.bool false)))))]) .ret) .skip)))) (.ops [(.op (some 59) none (.move (.t 6))), (.op (some 60) none (.ibin .add (.t 59) (.c (.v (.int .i64 1))))), (.op (some 6) none (.move (.t 60)))])))))) (.seq (.ops [(.op (some 4) none (.move (.c (.v (.bool true)))))]) .ret)))))⟩
theorem cf20 : compFn Try.prog 20 [(7, [(0, []), (1, []), (2, []), (3, []), (4, []), (5, []), (6, []), (7, []), (8, []), (9, []), (10, []), (11, [])])] = some c20 := by kernel_rfl
def c21 : AFn := ⟨[(.t 2)], (.seq (.ops [(.op (some 2) none (.move (.c (.v (.int .i64 0)))))]) (.seq (.ops [(.op (some 3) none (.move (.t 0))), (.op (some 2) none (.move (.t 3)))]) .ret))⟩
theorem cf21 : compFn Try.prog 21 [] = some c21 := by kernel_rfl
def c22 : AFn := ⟨[(.t 4)], (.seq (.ops [(.op (some 2) none (.box (.t 0))), (.op (some 3) none (.box (.t 1))), (.op (some 4) none (.move (.c (.v (.bool false)))))]) (.seq (.seq (.ops [(.op (some 9) none (.fld 0 (.t 2))), (.op (some 10) none (.load false 1 (.t 9))), (.op (some 11) none (.fld 0 (.t 3))), (.op (some 12) none (.load false 1 (.t 11))), (.op (some 13) none (.ibin .neq (.t 10) (.t 12))), (.op (some 14) none (.move (.t 13))), (.op (some 15) (some (14, false)) (.fld 1 (.t 2))), (.op (some 16) (some (14, false)) (.load false 1 (.t 15))), (.op (some 17) (some (14, false)) (.fld 1 (.t 3))), (.op (some 18) (some (14, false)) (.load false 1 (.t 17))), (.op (some 19) (some (14, false)) (.ibin .neq (.t 16) (.t 18))), (.op (some 20) none (.pick (.t 14) (.c (.v (.bool true))) (.t 19))), (.op (some 21) none (.move (.t 20))), (.op (some 22) (some (21, false)) (.fld 2 (.t 2))), (.op (some 23) (some (21, false)) (.load false 1 (.t 22))), (.op (some 24) (some (21, false)) (.fld 2 (.t 3))), (.op (some 25) (some (21, false)) (.load false 1 (.t 24))), (.op (some 26) (some (21, false)) (.bbin true (.t 23) (.t 25))), (.op (some 27) none (.pick (.t 21) (.c (.v (.bool true))) (.t 26))), (.op (some 28) none (.move (.t 27))), (.op (some 29) (some (28, false)) (.fld 3 (.t 2))), (.op (some 30) (some (28, false)) (.load false 1 (.t 29))), (.op (some 31) (some (28, false)) (.fld 3 (.t 3))), (.op (some 32) (some (28, false)) (.load false 1 (.t 31))), (.op (some 33) (some (28, false)) (.sbin .neq (.t 30) (.t 32))), (.op (some 34) none (.pick (.t 28) (.c (.v (.bool true))) (.t 33))), (.op (some 35) none (.move (.t 34))), (.op (some 36) (some (35, false)) (.fld 4 (.t 2))), (.op (some 37) (some (35, false)) (.load false 1 (.t 36))), (.op (some 38) (some (35, false)) (.len .slice (.t 37))), (.op (some 39) (some (35, false)) (.fld 4 (.t 3))), (.op (some 40) (some (35, false)) (.load false 1 (.t 39))), (.op (some 41) (some (35, false)) (.len .slice (.t 40))), (.op (some 42) (some (35, false)) (.ibin .neq (.t 38) (.t 41))), (.op (some 43) none (.pick (.t 35) (.c (.v (.bool true))) (.t 42))), (.op (some 44) none (.move (.t 43))), (.op (some 45) (some (44, false)) (.fld 5 (.t 2))), (.op (some 46) (some (44, false)) (.load false 1 (.t 45))), (.op (some 47) (some (44, false)) (.len .slice (.t 46))), (.op (some 48) (some (44, false)) (.fld 5 (.t 3))), (.op (some 49) (some (44, false)) (.load false 1 (.t 48))), (.op (some 50) (some (44, false)) (.len .slice (.t 49))), (.op (some 51) (some (44, false)) (.ibin .neq (.t 47) (.t 50))), (.op (some 52) none (.pick (.t 44) (.c (.v (.bool true))) (.t 51)))]) (.cond (.t 52) (.seq (.ops [(.op (some 4) none (.move (.c (.v (.bool false)))))]) .ret) .skip)) (.seq (.seq (.ops [(.op (some 5) none (.move (.c (.v (.int .i64 0)))))]) (.block 0 (.loop (.seq (.seq (.ops [(.op (some 53) none (.move (.t 5))), (.op (some 54) none (.fld 4 (.t 2))), (.op (some 55) none (.load false 1 (.t 54))), (.op (some 56) none (.len .slice (.t 55))), (.op (some 57) none (.ibin .lss (.t 53) (.t 56)))]) (.cond (.t 57) .skip (.exit 0))) (.seq (.block 1 (.seq (.draw [⟨(.op (some 60) none (.fld 4 (.t 2))), []⟩, ⟨(.op (some 61) none (.load false 1 (.t 60))), []⟩, ⟨(.op (some 62) none (.move (.t 5))), []⟩, ⟨(.op (some 63) none (.idx 2 (.t 61) (.t 62))), []⟩, ⟨(.op (some 64) none (.load true 2 (.t 63))), []⟩, ⟨(.op (some 65) none (.fld 4 (.t 3))), []⟩, ⟨(.op (some 66) none (.load false 1 (.t 65))), []⟩, ⟨(.op (some 67) none (.move (.t 5))), []⟩, ⟨(.op (some 68) none (.idx 2 (.t 66) (.t 67))), []⟩, ⟨(.op (some 69) none (.load true 2 (.t 68))), []⟩, ⟨(.call (some 70) none (.c (.fn (.func 80) [] [])) [(.t 64), (.t 69)]), []⟩, ⟨(.op (some 6) none (.move (.t 70))), []⟩]) (.seq (.ops [(.op (some 71) none (.move (.t 6))), (.op (some 72) none (.not (.t 71)))]) (.cond (.t 72) (.seq (.ops [(.op (some 4) none (.move (.c (.v (.bool false)))))]) .ret) .skip)))) (.ops [(.op (some 58) none (.move (.t 5))), (.op (some 59) none (.ibin .add (.t 58) (.c (.v (.int .i64 1))))), (.op (some 5) none (.move (.t 59)))])))))) (.seq (.seq (.ops [(.op (some 7) none (.move (.c (.v (.int .i64 0)))))]) (.block 2 (.loop (.seq (.seq (.ops [(.op (some 73) none (.move (.t 7))), (.op (some 74) none (.fld 5 (.t 2))), (.op (some 75) none (.load false 1 (.t 74))), (.op (some 76) none (.len .slice (.t 75))), (.op (some 77) none (.ibin .lss (.t 73) (.t 76)))]) (.cond (.t 77) .skip (.exit 2))) (.seq (.block 3 (.seq (.draw [⟨(.op (some 80) none (.fld 5 (.t 2))), []⟩, ⟨(.op (some 81) none (.load false 1 (.t 80))), []⟩, ⟨(.op (some 82) none (.move (.t 7))), []⟩, ⟨(.op (some 83) none (.idx 6 (.t 81) (.t 82))), []⟩, ⟨(.op (some 84) none (.load true 6 (.t 83))), []⟩, ⟨(.op (some 85) none (.fld 5 (.t 3))), []⟩, ⟨(.op (some 86) none (.load false 1 (.t 85))), []⟩, ⟨(.op (some 87) none (.move (.t 7))), []⟩, ⟨(.op (some 88) none (.idx 6 (.t 86) (.t 87))), []⟩, ⟨(.op (some 89) none (.load true 6 (.t 88))), []⟩, ⟨(.call (some 90) none (.c (.fn (.func 22) [] [])) [(.t 84), (.t 89)]), []⟩, ⟨(.op (some 8) none (.move (.t 90))), []⟩]) (.seq (.ops [(.op (some 91) none (.move (.t 8))), (.op (some 92) none (.not (.t 91)))]) (.cond (.t 92) (.seq (.ops [(.op (some 4) none (.move (.c (.v (.bool false)))))]) .ret) .skip)))) (.ops [(.op (some 78) none (.move (.t 7))), (.op (some 79) none (.ibin .add (.t 78) (.c (.v (.int .i64 1))))), (.op (some 7) none (.move (.t 79)))])))))) (.seq (.ops [(.op (some 4) none (.move (.c (.v (.bool true)))))]) .ret)))))⟩
theorem cf22 : compFn Try.prog 22 [(6, [(0, []), (1, []), (2, []), (3, []), (4, []), (5, []), (6, []), (7, []), (8, []), (9, []), (10, []), (11, [])]), (12, [(0, []), (1, []), (2, []), (3, []), (4, []), (5, []), (6, []), (7, []), (8, []), (9, []), (10, []), (11, [])])] = some c22 := by kernel_rfl
def c23 : AFn := ⟨[(.c 2 6 true)], (.seq (.ops [(.op (some 2) none (.alloc [(.v (.int .i64 0)), (.v (.int .i64 0)), (.v (.bool false)), (.v (.string (ByteArray.mk #[]))), (.v (.slice none 0 0)), (.v (.slice none 0 0))]))]) (.seq (.ops [(.op (some 3) none (.move (.t 0))), (.op (some 4) none (.build [(.v (.int .i64 0)), (.v (.slice none 0 0))] [(0, (1, (.t 3)))])), (.op (some 5) none (.buildS 2 1 [(.v (.int .i64 0)), (.v (.slice none 0 0))] [(0, (2, (.t 4)))])), (.op (some 6) none (.build [(.v (.int .i64 0)), (.v (.int .i64 0)), (.v (.bool false)), (.v (.string (ByteArray.mk #[]))), (.v (.slice none 0 0)), (.v (.slice none 0 0))] [(0, (1, (.c (.v (.int .i64 2))))), (4, (1, (.t 5)))])), (.op none none (.store 6 (.t 2) (.t 6)))]) .ret))⟩
theorem cf23 : compFn Try.prog 23 [] = some c23 := by kernel_rfl
def c24 : AFn := ⟨[(.t 2)], (.seq (.ops [(.op (some 1) none (.box (.t 0))), (.op (some 2) none (.move (.c (.v (.int .i64 0)))))]) (.seq (.ops [(.op (some 5) none (.build [(.v (.int .i64 0))] [])), (.op (some 6) none (.box (.t 5))), (.op (some 3) none (.move (.t 6)))]) (.seq (.ops [(.op (some 7) none (.move (.t 3))), (.op (some 8) none (.func (.func 81) [(.t 7)] [])), (.op (some 4) none (.move (.t 8)))]) (.seq (.seq (.ops [(.op (some 9) none (.move (.t 4))), (.op (some 10) none (.load true 6 (.t 1))), (.call (some 11) none (.t 9) [(.t 10), (.c (.v (.int .i64 1)))]), (.op (some 12) none (.not (.t 11)))]) (.cond (.t 12) (.seq (.ops [(.op (some 2) none (.move (.c (.v (.int .i64 2)))))]) .ret) .skip)) (.seq (.seq (.ops [(.op (some 13) none (.load true 6 (.t 1))), (.call (some 14) none (.c (.fn (.func 82) [] [])) [(.t 13), (.c (.fn (.func 83) [] [])), (.c (.fn (.func 84) [] []))]), (.op (some 15) none (.not (.t 14)))]) (.cond (.t 15) (.seq (.ops [(.op (some 2) none (.move (.c (.v (.int .i64 10)))))]) .ret) .skip)) (.seq (.ops [(.op (some 2) none (.move (.c (.v (.int .i64 0)))))]) .ret))))))⟩
theorem cf24 : compFn Try.prog 24 [] = some c24 := by kernel_rfl
def c25 : AFn := ⟨[(.c 4 6 true)], (.seq (.ops [(.op (some 2) none (.box (.t 0))), (.op (some 3) none (.box (.t 1))), (.op (some 4) none (.alloc [(.v (.int .i64 0)), (.v (.int .i64 0)), (.v (.bool false)), (.v (.string (ByteArray.mk #[]))), (.v (.slice none 0 0)), (.v (.slice none 0 0))]))]) (.seq (.ops [(.op (some 5) none (.load true 6 (.t 2))), (.op (some 6) none (.load true 6 (.t 3))), (.op (some 7) none (.buildS 6 2 [(.v (.int .i64 0)), (.v (.int .i64 0)), (.v (.bool false)), (.v (.string (ByteArray.mk #[]))), (.v (.slice none 0 0)), (.v (.slice none 0 0)), (.v (.int .i64 0)), (.v (.int .i64 0)), (.v (.bool false)), (.v (.string (ByteArray.mk #[]))), (.v (.slice none 0 0)), (.v (.slice none 0 0))] [(0, (6, (.t 5))), (6, (6, (.t 6)))])), (.op (some 8) none (.build [(.v (.int .i64 0)), (.v (.int .i64 0)), (.v (.bool false)), (.v (.string (ByteArray.mk #[]))), (.v (.slice none 0 0)), (.v (.slice none 0 0))] [(0, (1, (.c (.v (.int .i64 5))))), (5, (1, (.t 7)))])), (.op none none (.store 6 (.t 4) (.t 8)))]) .ret))⟩
theorem cf25 : compFn Try.prog 25 [] = some c25 := by kernel_rfl
def c26 : AFn := ⟨[(.t 2)], (.seq (.ops [(.op (some 1) none (.box (.t 0))), (.op (some 2) none (.move (.c (.v (.int .i64 0)))))]) (.seq (.seq (.ops [(.op (some 5) none (.load true 6 (.t 1))), (.call (some 6) none (.c (.fn (.func 29) [] [])) [(.t 5)]), (.op (some 7) none (.ibin .neq (.t 6) (.c (.v (.int .i64 0)))))]) (.cond (.t 7) (.seq (.ops [(.op (some 2) none (.move (.c (.v (.int .i64 0)))))]) .ret) .skip)) (.seq (.ops [(.op (some 9) none (.load true 6 (.t 1))), (.call (some 10) none (.c (.fn (.func 85) [] [])) [(.t 9), (.c (.v (.int .i64 20000))), (.c (.v (.int .i64 500)))]), (.op (some 8) none (.move (.t 10))), (.op (some 11) none (.ext (.t 8) 0)), (.op (some 12) none (.ext (.t 8) 1)), (.op (some 3) none (.move (.t 11))), (.op (some 4) none (.move (.t 12)))]) (.seq (.ops [(.op (some 13) none (.move (.t 3))), (.op (some 2) none (.move (.t 13)))]) .ret))))⟩
theorem cf26 : compFn Try.prog 26 [] = some c26 := by kernel_rfl
def c27 : AFn := ⟨[(.t 2)], (.seq (.ops [(.op (some 1) none (.box (.t 0))), (.op (some 2) none (.move (.c (.v (.int .i64 0)))))]) (.seq (.seq (.ops [(.op (some 3) none (.load true 6 (.t 1))), (.call (some 4) none (.c (.fn (.func 24) [] [])) [(.t 3)]), (.op (some 5) none (.ibin .neq (.t 4) (.c (.v (.int .i64 0)))))]) (.cond (.t 5) (.seq (.ops [(.op (some 2) none (.move (.c (.v (.int .i64 0)))))]) .ret) .skip)) (.seq (.ops [(.op (some 6) none (.load true 6 (.t 1))), (.call (some 7) none (.c (.fn (.func 86) [] [])) [(.t 6), (.c (.v (.int .i64 20000)))]), (.op (some 2) none (.move (.t 7)))]) .ret)))⟩
theorem cf27 : compFn Try.prog 27 [] = some c27 := by kernel_rfl
def c29 : AFn := ⟨[(.t 2)], (.seq (.ops [(.op (some 1) none (.box (.t 0))), (.op (some 2) none (.move (.c (.v (.int .i64 0)))))]) (.seq (.ops [(.op (some 7) none (.load true 6 (.t 1))), (.call (some 8) none (.c (.fn (.func 85) [] [])) [(.t 7), (.c (.v (.int .i64 20000))), (.c (.v (.int .i64 500)))]), (.op (some 6) none (.move (.t 8))), (.op (some 9) none (.ext (.t 6) 0)), (.op (some 10) none (.ext (.t 6) 1)), (.op (some 3) none (.move (.t 9))), (.op (some 4) none (.move (.t 10)))]) (.seq (.seq (.ops [(.op (some 11) none (.move (.t 3))), (.op (some 12) none (.ibin .gtr (.t 11) (.c (.v (.int .i64 20000))))), (.op (some 13) none (.move (.t 12))), (.op (some 14) (some (13, false)) (.move (.t 4))), (.op (some 15) (some (13, false)) (.ibin .gtr (.t 14) (.c (.v (.int .i64 500))))), (.op (some 16) none (.pick (.t 13) (.c (.v (.bool true))) (.t 15)))]) (.cond (.t 16) (.seq (.ops [(.op (some 2) none (.move (.c (.v (.int .i64 2)))))]) .ret) .skip)) (.seq (.ops [(.op (some 17) none (.load true 6 (.t 1))), (.call (some 18) none (.c (.fn (.func 87) [] [])) [(.t 17)]), (.op (some 5) none (.move (.t 18)))]) (.seq (.seq (.ops [(.op (some 19) none (.move (.t 5))), (.op (some 20) none (.not (.t 19)))]) (.cond (.t 20) (.seq (.ops [(.op (some 2) none (.move (.c (.v (.int .i64 10)))))]) .ret) .skip)) (.seq (.ops [(.op (some 2) none (.move (.c (.v (.int .i64 0)))))]) .ret))))))⟩
theorem cf29 : compFn Try.prog 29 [] = some c29 := by kernel_rfl
def c32 : AFn := ⟨[(.c 2 6 true)], (.seq (.ops [(.op (some 1) none (.box (.t 0))), (.op (some 2) none (.alloc [(.v (.int .i64 0)), (.v (.int .i64 0)), (.v (.bool false)), (.v (.string (ByteArray.mk #[]))), (.v (.slice none 0 0)), (.v (.slice none 0 0))]))]) (.seq (.ops [(.op (some 6) none (.fld 0 (.t 1))), (.op (some 7) none (.load false 1 (.t 6))), (.op (some 8) none (.build [(.v (.int .i64 0)), (.v (.int .i64 0)), (.v (.bool false)), (.v (.string (ByteArray.mk #[]))), (.v (.slice none 0 0)), (.v (.slice none 0 0))] [(0, (1, (.t 7)))])), (.op (some 3) none (.alloc [(.v (.int .i64 0)), (.v (.int .i64 0)), (.v (.bool false)), (.v (.string (ByteArray.mk #[]))), (.v (.slice none 0 0)), (.v (.slice none 0 0))])), (.op none none (.store 6 (.t 3) (.t 8)))]) (.seq (.seq (.ops [(.op (some 9) none (.fld 0 (.t 1))), (.op (some 10) none (.load false 1 (.t 9)))]) (.block 0 (.seq (.seq (.ops [(.op (some 12) none (.ibin .eql (.t 10) (.c (.v (.int .i64 1))))), (.op (some 11) none (.move (.t 12)))]) (.cond (.t 11) .skip (.ops [(.op (some 13) none (.ibin .eql (.t 10) (.c (.v (.int .i64 11))))), (.op (some 11) none (.move (.t 13)))]))) (.cond (.t 11) (.ops [(.op (some 14) none (.fld 1 (.t 1))), (.op (some 15) none (.load false 1 (.t 14))), (.op (some 16) none (.fld 1 (.t 3))), (.op none none (.store 1 (.t 16) (.t 15)))]) (.seq (.seq (.ops [(.op (some 18) none (.ibin .eql (.t 10) (.c (.v (.int .i64 2))))), (.op (some 17) none (.move (.t 18)))]) (.cond (.t 17) .skip (.ops [(.op (some 19) none (.ibin .eql (.t 10) (.c (.v (.int .i64 10))))), (.op (some 17) none (.move (.t 19)))]))) (.cond (.t 17) (.seq (.seq (.ops [(.op (some 20) none (.fld 0 (.t 1))), (.op (some 21) none (.load false 1 (.t 20))), (.op (some 22) none (.ibin .eql (.t 21) (.c (.v (.int .i64 10)))))]) (.cond (.t 22) (.ops [(.op (some 23) none (.fld 3 (.t 1))), (.op (some 24) none (.load false 1 (.t 23))), (.op (some 25) none (.fld 3 (.t 3))), (.op none none (.store 1 (.t 25) (.t 24)))]) .skip)) (.seq (.ops [(.op (some 4) none (.move (.c (.v (.int .i64 0)))))]) (.block 1 (.loop (.seq (.seq (.ops [(.op (some 26) none (.move (.t 4))), (.op (some 27) none (.fld 4 (.t 1))), (.op (some 28) none (.load false 1 (.t 27))), (.op (some 29) none (.len .slice (.t 28))), (.op (some 30) none (.ibin .lss (.t 26) (.t 29)))]) (.cond (.t 30) .skip (.exit 1))) (.seq (.block 2 (.draw [⟨(.op (some 33) none (.fld 4 (.t 3))), []⟩, ⟨(.op (some 34) none (.load false 1 (.t 33))), []⟩, ⟨(.op (some 35) none (.fld 4 (.t 1))), []⟩, ⟨(.op (some 36) none (.load false 1 (.t 35))), []⟩, ⟨(.op (some 37) none (.move (.t 4))), []⟩, ⟨(.op (some 38) none (.idx 2 (.t 36) (.t 37))), []⟩, ⟨(.op (some 39) none (.fld 0 (.t 38))), []⟩, ⟨(.op (some 40) none (.load false 1 (.t 39))), []⟩, ⟨(.op (some 41) none (.fld 4 (.t 1))), []⟩, ⟨(.op (some 42) none (.load false 1 (.t 41))), []⟩, ⟨(.op (some 43) none (.move (.t 4))), []⟩, ⟨(.op (some 44) none (.idx 2 (.t 42) (.t 43))), []⟩, ⟨(.op (some 45) none (.fld 1 (.t 44))), []⟩, ⟨(.op (some 46) none (.load false 1 (.t 45))), []⟩, ⟨(.op (some 47) none (.append 2 16 (.c (.v (.slice none 0 0))) (.t 46))), [0, 1, 2, 3, 4, 5, 6, 7]⟩, ⟨(.op (some 48) none (.build [(.v (.int .i64 0)), (.v (.slice none 0 0))] [(0, (1, (.t 40))), (1, (1, (.t 47)))])), []⟩, ⟨(.op (some 49) none (.buildS 2 1 [(.v (.int .i64 0)), (.v (.slice none 0 0))] [(0, (2, (.t 48)))])), []⟩, ⟨(.op (some 50) none (.append 2 32 (.t 34) (.t 49))), []⟩, ⟨(.op (some 51) none (.fld 4 (.t 3))), []⟩, ⟨(.op none none (.store 1 (.t 51) (.t 50))), []⟩])) (.ops [(.op (some 31) none (.move (.t 4))), (.op (some 32) none (.ibin .add (.t 31) (.c (.v (.int .i64 1))))), (.op (some 4) none (.move (.t 32)))]))))))) (.seq (.seq (.ops [(.op (some 53) none (.ibin .eql (.t 10) (.c (.v (.int .i64 3))))), (.op (some 52) none (.move (.t 53)))]) (.cond (.t 52) .skip (.seq (.ops [(.op (some 54) none (.ibin .eql (.t 10) (.c (.v (.int .i64 4))))), (.op (some 52) none (.move (.t 54)))]) (.cond (.t 52) .skip (.ops [(.op (some 55) none (.ibin .eql (.t 10) (.c (.v (.int .i64 5))))), (.op (some 52) none (.move (.t 55)))]))))) (.cond (.t 52) (.ops [(.op (some 56) none (.fld 2 (.t 1))), (.op (some 57) none (.load false 1 (.t 56))), (.op (some 58) none (.fld 2 (.t 3))), (.op none none (.store 1 (.t 58) (.t 57)))]) .skip)))))))) (.seq (.seq (.ops [(.op (some 5) none (.move (.c (.v (.int .i64 0)))))]) (.block 3 (.loop (.seq (.seq (.ops [(.op (some 59) none (.move (.t 5))), (.op (some 60) none (.fld 5 (.t 1))), (.op (some 61) none (.load false 1 (.t 60))), (.op (some 62) none (.len .slice (.t 61))), (.op (some 63) none (.ibin .lss (.t 59) (.t 62)))]) (.cond (.t 63) .skip (.exit 3))) (.seq (.block 4 (.draw [⟨(.op (some 66) none (.fld 5 (.t 3))), []⟩, ⟨(.op (some 67) none (.load false 1 (.t 66))), []⟩, ⟨(.op (some 68) none (.fld 5 (.t 1))), []⟩, ⟨(.op (some 69) none (.load false 1 (.t 68))), []⟩, ⟨(.op (some 70) none (.move (.t 5))), []⟩, ⟨(.op (some 71) none (.idx 6 (.t 69) (.t 70))), []⟩, ⟨(.op (some 72) none (.load true 6 (.t 71))), []⟩, ⟨(.call (some 73) none (.c (.fn (.func 32) [] [])) [(.t 72)]), [0, 1]⟩, ⟨(.op (some 74) none (.buildS 6 1 [(.v (.int .i64 0)), (.v (.int .i64 0)), (.v (.bool false)), (.v (.string (ByteArray.mk #[]))), (.v (.slice none 0 0)), (.v (.slice none 0 0))] [(0, (6, (.t 73)))])), []⟩, ⟨(.op (some 75) none (.append 6 88 (.t 67) (.t 74))), []⟩, ⟨(.op (some 76) none (.fld 5 (.t 3))), []⟩, ⟨(.op none none (.store 1 (.t 76) (.t 75))), []⟩])) (.ops [(.op (some 64) none (.move (.t 5))), (.op (some 65) none (.ibin .add (.t 64) (.c (.v (.int .i64 1))))), (.op (some 5) none (.move (.t 65)))])))))) (.seq (.ops [(.op (some 77) none (.load true 6 (.t 3))), (.op none none (.store 6 (.t 2) (.t 77)))]) .ret)))))⟩
theorem cf32 : compFn Try.prog 32 [(13, [(0, []), (1, []), (2, []), (3, []), (4, []), (5, []), (6, []), (7, []), (8, []), (9, []), (10, []), (11, []), (12, []), (13, []), (14, [0, 1, 2, 3, 4, 5, 6, 7]), (15, []), (16, []), (17, []), (18, []), (19, [])]), (21, [(0, []), (1, []), (2, []), (3, []), (4, []), (5, []), (6, []), (7, [0, 1]), (8, []), (9, []), (10, []), (11, [])])] = some c32 := by kernel_rfl
def c45 : AFn := ⟨[(.c 6 6 true), (.t 7)], (.seq (.ops [(.op (some 3) none (.box (.t 0))), (.op (some 5) none (.box (.t 2))), (.op (some 6) none (.alloc [(.v (.int .i64 0)), (.v (.int .i64 0)), (.v (.bool false)), (.v (.string (ByteArray.mk #[]))), (.v (.slice none 0 0)), (.v (.slice none 0 0))])), (.op (some 7) none (.move (.c (.v (.int .i64 0)))))]) (.seq (.seq (.ops [(.op (some 13) none (.load true 6 (.t 3))), (.op (some 14) none (.load true 6 (.t 5))), (.op (some 15) none (.build [(.v (.int .i64 0)), (.v (.int .i64 0)), (.v (.bool false)), (.v (.string (ByteArray.mk #[]))), (.v (.slice none 0 0)), (.v (.slice none 0 0)), (.v (.int .i64 0)), (.v (.int .i64 0)), (.v (.bool false)), (.v (.string (ByteArray.mk #[]))), (.v (.slice none 0 0)), (.v (.slice none 0 0))] [(0, (6, (.t 13))), (6, (6, (.t 14)))])), (.op (some 16) none (.move (.c (.v (.int .i64 0)))))]) (.block 0 (.loop (.seq (.ops [(.op (some 17) none (.ibin .lss (.t 16) (.c (.v (.int .i64 2)))))]) (.seq (.cond (.t 17) .skip (.exit 0)) (.seq (.block 1 (.seq (.ops [(.op (some 18) none (.aidx true 2 6 (.t 15) (.t 16))), (.op (some 9) none (.alloc [(.v (.int .i64 0)), (.v (.int .i64 0)), (.v (.bool false)), (.v (.string (ByteArray.mk #[]))), (.v (.slice none 0 0)), (.v (.slice none 0 0))])), (.op none none (.store 6 (.t 9) (.t 18)))]) (.seq (.ops [(.op (some 19) none (.load true 6 (.t 9))), (.call (some 20) none (.c (.fn (.func 24) [] [])) [(.t 19)]), (.op (some 10) none (.move (.t 20)))]) (.seq (.ops [(.op (some 21) none (.move (.t 10))), (.op (some 22) none (.ibin .neq (.t 21) (.c (.v (.int .i64 0)))))]) (.cond (.t 22) (.seq (.ops [(.op (some 23) none (.build [(.v (.int .i64 0)), (.v (.int .i64 0)), (.v (.bool false)), (.v (.string (ByteArray.mk #[]))), (.v (.slice none 0 0)), (.v (.slice none 0 0))] [])), (.op (some 24) none (.move (.t 10))), (.op none none (.store 6 (.t 6) (.t 23))), (.op (some 7) none (.move (.t 24)))]) .ret) .skip))))) (.ops [(.op (some 25) none (.ibin .add (.t 16) (.c (.v (.int .i64 1))))), (.op (some 16) none (.move (.t 25)))]))))))) (.seq (.seq (.ops [(.op (some 26) none (.move (.t 1))), (.op (some 27) none (.ibin .lss (.t 26) (.c (.v (.int .i64 0)))))]) (.cond (.t 27) (.seq (.ops [(.op (some 28) none (.build [(.v (.int .i64 0)), (.v (.int .i64 0)), (.v (.bool false)), (.v (.string (ByteArray.mk #[]))), (.v (.slice none 0 0)), (.v (.slice none 0 0))] [])), (.op none none (.store 6 (.t 6) (.t 28))), (.op (some 7) none (.move (.c (.v (.int .i64 1)))))]) .ret) .skip)) (.seq (.ops [(.op (some 11) none (.alloc [(.v (.int .i64 0))])), (.op none none (.store 1 (.t 11) (.c (.v (.int .i64 40002)))))]) (.seq (.ops [(.op (some 29) none (.load true 6 (.t 3))), (.op (some 30) none (.move (.t 1))), (.op (some 31) none (.mm false (.t 30) (.c (.v (.int .i64 1099511627776))))), (.op (some 32) none (.load true 6 (.t 5))), (.call (some 33) none (.c (.fn (.func 98) [] [])) [(.t 29), (.t 31), (.t 32), (.t 11)]), (.op (some 12) none (.alloc [(.v (.int .i64 0)), (.v (.int .i64 0)), (.v (.bool false)), (.v (.string (ByteArray.mk #[]))), (.v (.slice none 0 0)), (.v (.slice none 0 0))])), (.op none none (.store 6 (.t 12) (.t 33)))]) (.seq (.ops [(.op (some 34) none (.load true 6 (.t 12))), (.op (some 35) none (.load false 1 (.t 11))), (.call (some 36) none (.c (.fn (.func 75) [] [])) [(.t 34), (.t 35)]), (.op (some 37) none (.ext (.t 36) 0)), (.op (some 38) none (.ext (.t 36) 1)), (.op none none (.store 6 (.t 6) (.t 37))), (.op (some 7) none (.move (.t 38)))]) .ret))))))⟩
theorem cf45 : compFn Try.prog 45 [] = some c45 := by kernel_rfl
def c52 : AFn := ⟨[(.c 4 6 true)], (.seq (.ops [(.op (some 4) none (.alloc [(.v (.int .i64 0)), (.v (.int .i64 0)), (.v (.bool false)), (.v (.string (ByteArray.mk #[]))), (.v (.slice none 0 0)), (.v (.slice none 0 0))]))]) (.seq (.ops [(.op (some 5) none (.move (.t 0))), (.op (some 6) none (.move (.t 1))), (.op (some 7) none (.append 2 32 (.c (.v (.slice none 0 0))) (.t 6))), (.op (some 8) none (.build [(.v (.int .i64 0)), (.v (.int .i64 0)), (.v (.bool false)), (.v (.string (ByteArray.mk #[]))), (.v (.slice none 0 0)), (.v (.slice none 0 0))] [(0, (1, (.c (.v (.int .i64 10))))), (3, (1, (.t 5))), (4, (1, (.t 7)))])), (.op none none (.store 6 (.t 4) (.t 8)))]) .ret))⟩
theorem cf52 : compFn Try.prog 52 [] = some c52 := by kernel_rfl
def c72 : AFn := ⟨[(.c 4 6 true)], (.seq (.ops [(.op (some 2) none (.box (.t 0))), (.op (some 3) none (.box (.t 1))), (.op (some 4) none (.alloc [(.v (.int .i64 0)), (.v (.int .i64 0)), (.v (.bool false)), (.v (.string (ByteArray.mk #[]))), (.v (.slice none 0 0)), (.v (.slice none 0 0))]))]) (.seq (.ops [(.op (some 5) none (.load true 6 (.t 2))), (.op (some 6) none (.load true 6 (.t 3))), (.op (some 7) none (.buildS 6 2 [(.v (.int .i64 0)), (.v (.int .i64 0)), (.v (.bool false)), (.v (.string (ByteArray.mk #[]))), (.v (.slice none 0 0)), (.v (.slice none 0 0)), (.v (.int .i64 0)), (.v (.int .i64 0)), (.v (.bool false)), (.v (.string (ByteArray.mk #[]))), (.v (.slice none 0 0)), (.v (.slice none 0 0))] [(0, (6, (.t 5))), (6, (6, (.t 6)))])), (.op (some 8) none (.build [(.v (.int .i64 0)), (.v (.int .i64 0)), (.v (.bool false)), (.v (.string (ByteArray.mk #[]))), (.v (.slice none 0 0)), (.v (.slice none 0 0))] [(0, (1, (.c (.v (.int .i64 4))))), (5, (1, (.t 7)))])), (.op none none (.store 6 (.t 4) (.t 8)))]) .ret))⟩
theorem cf72 : compFn Try.prog 72 [] = some c72 := by kernel_rfl
def c73 : AFn := ⟨[(.c 2 6 true)], (.seq (.ops [(.op (some 2) none (.alloc [(.v (.int .i64 0)), (.v (.int .i64 0)), (.v (.bool false)), (.v (.string (ByteArray.mk #[]))), (.v (.slice none 0 0)), (.v (.slice none 0 0))]))]) (.seq (.ops [(.op (some 3) none (.move (.t 0))), (.op (some 4) none (.build [(.v (.int .i64 0)), (.v (.int .i64 0)), (.v (.bool false)), (.v (.string (ByteArray.mk #[]))), (.v (.slice none 0 0)), (.v (.slice none 0 0))] [(0, (1, (.c (.v (.int .i64 1))))), (1, (1, (.t 3)))])), (.op none none (.store 6 (.t 2) (.t 4)))]) .ret))⟩
theorem cf73 : compFn Try.prog 73 [] = some c73 := by kernel_rfl
def c74 : AFn := ⟨[(.t 6)], (.seq (.ops [(.op (some 3) none (.box (.t 0))), (.op (some 6) none (.move (.c (.v (.int .i64 0)))))]) (.seq (.ops [(.op (some 10) none (.fld 3 (.t 3))), (.op (some 11) none (.load false 1 (.t 10))), (.op (some 12) none (.len .str (.t 11))), (.op (some 13) none (.ibin .quo (.t 12) (.c (.v (.int .i64 16))))), (.op (some 14) none (.ibin .add (.c (.v (.int .i64 1))) (.t 13))), (.op (some 7) none (.move (.t 14)))]) (.seq (.seq (.ops [(.op (some 15) none (.move (.t 2))), (.op (some 16) none (.ibin .gtr (.t 15) (.c (.v (.int .i64 700)))))]) (.cond (.t 16) (.seq (.ops [(.op (some 17) none (.move (.t 1))), (.op (some 18) none (.ibin .add (.t 17) (.c (.v (.int .i64 1))))), (.op (some 6) none (.move (.t 18)))]) .ret) .skip)) (.seq (.seq (.ops [(.op (some 8) none (.move (.c (.v (.int .i64 0)))))]) (.block 0 (.loop (.seq (.seq (.ops [(.op (some 19) none (.move (.t 8))), (.op (some 20) none (.fld 4 (.t 3))), (.op (some 21) none (.load false 1 (.t 20))), (.op (some 22) none (.len .slice (.t 21))), (.op (some 23) none (.ibin .lss (.t 19) (.t 22))), (.op (some 24) none (.move (.t 23))), (.op (some 25) (some (24, true)) (.move (.t 7))), (.op (some 26) (some (24, true)) (.move (.t 1))), (.op (some 27) (some (24, true)) (.ibin .leq (.t 25) (.t 26))), (.op (some 28) none (.pick (.t 24) (.t 27) (.c (.v (.bool false)))))]) (.cond (.t 28) .skip (.exit 0))) (.seq (.block 1 (.ops [(.op (some 31) none (.move (.t 7))), (.op (some 32) none (.ibin .add (.t 31) (.c (.v (.int .i64 1))))), (.op (some 33) none (.fld 4 (.t 3))), (.op (some 34) none (.load false 1 (.t 33))), (.op (some 35) none (.move (.t 8))), (.op (some 36) none (.idx 2 (.t 34) (.t 35))), (.op (some 37) none (.fld 1 (.t 36))), (.op (some 38) none (.load false 1 (.t 37))), (.op (some 39) none (.len .slice (.t 38))), (.op (some 40) none (.ibin .add (.t 32) (.t 39))), (.op (some 7) none (.move (.t 40)))])) (.ops [(.op (some 29) none (.move (.t 8))), (.op (some 30) none (.ibin .add (.t 29) (.c (.v (.int .i64 1))))), (.op (some 8) none (.move (.t 30)))])))))) (.seq (.seq (.ops [(.op (some 9) none (.move (.c (.v (.int .i64 0)))))]) (.block 2 (.loop (.seq (.seq (.ops [(.op (some 41) none (.move (.t 9))), (.op (some 42) none (.fld 5 (.t 3))), (.op (some 43) none (.load false 1 (.t 42))), (.op (some 44) none (.len .slice (.t 43))), (.op (some 45) none (.ibin .lss (.t 41) (.t 44))), (.op (some 46) none (.move (.t 45))), (.op (some 47) (some (46, true)) (.move (.t 7))), (.op (some 48) (some (46, true)) (.move (.t 1))), (.op (some 49) (some (46, true)) (.ibin .leq (.t 47) (.t 48))), (.op (some 50) none (.pick (.t 46) (.t 49) (.c (.v (.bool false)))))]) (.cond (.t 50) .skip (.exit 2))) (.seq (.block 3 (.ops [(.op (some 53) none (.move (.t 7))), (.op (some 54) none (.fld 5 (.t 3))), (.op (some 55) none (.load false 1 (.t 54))), (.op (some 56) none (.move (.t 9))), (.op (some 57) none (.idx 6 (.t 55) (.t 56))), (.op (some 58) none (.load true 6 (.t 57))), (.op (some 59) none (.move (.t 1))), (.op (some 60) none (.move (.t 2))), (.op (some 61) none (.ibin .add (.t 60) (.c (.v (.int .i64 1))))), (.call (some 62) none (.c (.fn (.func 74) [] [])) [(.t 58), (.t 59), (.t 61)]), (.op (some 63) none (.ibin .add (.t 53) (.t 62))), (.op (some 7) none (.move (.t 63)))])) (.ops [(.op (some 51) none (.move (.t 9))), (.op (some 52) none (.ibin .add (.t 51) (.c (.v (.int .i64 1))))), (.op (some 9) none (.move (.t 52)))])))))) (.seq (.ops [(.op (some 64) none (.move (.t 7))), (.op (some 6) none (.move (.t 64)))]) .ret))))))⟩
theorem cf74 : compFn Try.prog 74 [] = some c74 := by kernel_rfl
def c75 : AFn := ⟨[(.c 4 6 true), (.t 5)], (.seq (.ops [(.op (some 2) none (.box (.t 0))), (.op (some 4) none (.alloc [(.v (.int .i64 0)), (.v (.int .i64 0)), (.v (.bool false)), (.v (.string (ByteArray.mk #[]))), (.v (.slice none 0 0)), (.v (.slice none 0 0))])), (.op (some 5) none (.move (.c (.v (.int .i64 0)))))]) (.seq (.seq (.ops [(.op (some 6) none (.move (.t 1))), (.op (some 7) none (.ibin .lss (.t 6) (.c (.v (.int .i64 0))))), (.op (some 8) none (.move (.t 7))), (.op (some 9) (some (8, false)) (.load true 6 (.t 2))), (.call (some 10) (some (8, false)) (.c (.fn (.func 24) [] [])) [(.t 9)]), (.op (some 11) (some (8, false)) (.ibin .neq (.t 10) (.c (.v (.int .i64 0))))), (.op (some 12) none (.pick (.t 8) (.c (.v (.bool true))) (.t 11)))]) (.cond (.t 12) (.seq (.ops [(.op (some 13) none (.build [(.v (.int .i64 0)), (.v (.int .i64 0)), (.v (.bool false)), (.v (.string (ByteArray.mk #[]))), (.v (.slice none 0 0)), (.v (.slice none 0 0))] [])), (.op none none (.store 6 (.t 4) (.t 13))), (.op (some 5) none (.move (.c (.v (.int .i64 2)))))]) .ret) .skip)) (.seq (.ops [(.op (some 14) none (.load true 6 (.t 2))), (.op none none (.store 6 (.t 4) (.t 14))), (.op (some 5) none (.move (.c (.v (.int .i64 0)))))]) .ret)))⟩
theorem cf75 : compFn Try.prog 75 [] = some c75 := by kernel_rfl
def c76 : AFn := ⟨[(.c 2 6 true)], (.seq (.ops [(.op (some 1) none (.box (.t 0))), (.op (some 2) none (.alloc [(.v (.int .i64 0)), (.v (.int .i64 0)), (.v (.bool false)), (.v (.string (ByteArray.mk #[]))), (.v (.slice none 0 0)), (.v (.slice none 0 0))]))]) (.seq (.draw [⟨(.op (some 3) none (.load true 6 (.t 1))), []⟩, ⟨(.call (some 4) none (.c (.fn (.func 124) [] [])) []), [0]⟩, ⟨(.call (some 5) none (.c (.fn (.func 123) [] [])) [(.t 3), (.c (.v (.int .i64 0))), (.t 4), (.c (.fn (.func 125) [] []))]), []⟩, ⟨(.op none none (.store 6 (.t 2) (.t 5))), []⟩]) .ret))⟩
theorem cf76 : compFn Try.prog 76 [(1, [(0, []), (1, [0]), (2, []), (3, [])])] = some c76 := by kernel_rfl
def c77 : AFn := ⟨[(.c 6 6 true)], (.seq (.ops [(.op (some 3) none (.box (.t 0))), (.op (some 6) none (.alloc [(.v (.int .i64 0)), (.v (.int .i64 0)), (.v (.bool false)), (.v (.string (ByteArray.mk #[]))), (.v (.slice none 0 0)), (.v (.slice none 0 0))]))]) (.seq (.seq (.ops [(.op (some 7) none (.move (.t 2))), (.op (some 8) none (.ibin .eql (.t 7) (.c (.v (.int .i64 0))))), (.op (some 9) none (.move (.t 8))), (.op (some 10) (some (9, true)) (.move (.t 1))), (.op (some 11) (some (9, true)) (.ibin .eql (.t 10) (.c (.v (.int .i64 0))))), (.op (some 12) none (.pick (.t 9) (.t 11) (.c (.v (.bool false)))))]) (.cond (.t 12) (.seq (.ops [(.op (some 13) none (.load true 6 (.t 3))), (.op none none (.store 6 (.t 6) (.t 13)))]) .ret) .skip)) (.seq (.draw [⟨(.op (some 14) none (.load true 6 (.t 3))), []⟩, ⟨(.op (some 16) none (.move (.t 1))), []⟩, ⟨(.op (some 17) none (.move (.t 2))), []⟩, ⟨(.op (some 18) none (.build [(.v (.int .i64 0)), (.v (.int .i64 0))] [(0, (1, (.t 16))), (1, (1, (.t 17)))])), []⟩, ⟨(.op (some 19) none (.func (.func 126) [(.t 18)] [])), []⟩, ⟨(.call (some 15) none (.c (.fn (.func 124) [] [])) []), [0, 1, 2, 3, 4]⟩, ⟨(.call (some 20) none (.c (.fn (.func 123) [] [])) [(.t 14), (.c (.v (.int .i64 0))), (.t 15), (.t 19)]), []⟩, ⟨(.op none none (.store 6 (.t 6) (.t 20))), []⟩]) .ret)))⟩
theorem cf77 : compFn Try.prog 77 [(3, [(0, []), (2, []), (3, []), (4, []), (5, []), (1, [0, 1, 2, 3, 4]), (6, []), (7, [])])] = some c77 := by kernel_rfl
def c78 : AFn := ⟨[(.c 2 6 true), (.t 3)], (.seq (.ops [(.op (some 1) none (.box (.t 0))), (.op (some 2) none (.alloc [(.v (.int .i64 0)), (.v (.int .i64 0)), (.v (.bool false)), (.v (.string (ByteArray.mk #[]))), (.v (.slice none 0 0)), (.v (.slice none 0 0))])), (.op (some 3) none (.move (.c (.v (.int .i64 0)))))]) (.seq (.seq (.ops [(.op (some 4) none (.load true 6 (.t 1))), (.call (some 5) none (.c (.fn (.func 29) [] [])) [(.t 4)]), (.op (some 6) none (.ibin .neq (.t 5) (.c (.v (.int .i64 0)))))]) (.cond (.t 6) (.seq (.ops [(.op (some 7) none (.build [(.v (.int .i64 0)), (.v (.int .i64 0)), (.v (.bool false)), (.v (.string (ByteArray.mk #[]))), (.v (.slice none 0 0)), (.v (.slice none 0 0))] [])), (.op none none (.store 6 (.t 2) (.t 7))), (.op (some 3) none (.move (.c (.v (.int .i64 2)))))]) .ret) .skip)) (.seq (.ops [(.op (some 8) none (.load true 6 (.t 1))), (.call (some 9) none (.c (.fn (.func 32) [] [])) [(.t 8)]), (.op none none (.store 6 (.t 2) (.t 9))), (.op (some 3) none (.move (.c (.v (.int .i64 0)))))]) .ret)))⟩
theorem cf78 : compFn Try.prog 78 [] = some c78 := by kernel_rfl
def c79 : AFn := ⟨[(.c 6 6 true)], (.seq (.ops [(.op (some 3) none (.box (.t 0))), (.op (some 6) none (.alloc [(.v (.int .i64 0)), (.v (.int .i64 0)), (.v (.bool false)), (.v (.string (ByteArray.mk #[]))), (.v (.slice none 0 0)), (.v (.slice none 0 0))]))]) (.seq (.seq (.ops [(.op (some 10) none (.fld 0 (.t 3))), (.op (some 11) none (.load false 1 (.t 10))), (.op (some 12) none (.ibin .eql (.t 11) (.c (.v (.int .i64 1))))), (.op (some 13) none (.move (.t 12))), (.op (some 14) (some (13, true)) (.fld 1 (.t 3))), (.op (some 15) (some (13, true)) (.load false 1 (.t 14))), (.op (some 16) (some (13, true)) (.move (.t 1))), (.op (some 17) (some (13, true)) (.ibin .geq (.t 15) (.t 16))), (.op (some 18) none (.pick (.t 13) (.t 17) (.c (.v (.bool false)))))]) (.cond (.t 18) (.seq (.ops [(.op (some 19) none (.fld 1 (.t 3))), (.op (some 20) none (.load false 1 (.t 19))), (.op (some 21) none (.move (.t 2))), (.op (some 22) none (.ibin .add (.t 20) (.t 21))), (.op (some 23) none (.fld 1 (.t 3))), (.op none none (.store 1 (.t 23) (.t 22)))]) (.seq (.ops [(.op (some 24) none (.load true 6 (.t 3))), (.op none none (.store 6 (.t 6) (.t 24)))]) .ret)) .skip)) (.seq (.seq (.ops [(.op (some 25) none (.fld 5 (.t 3))), (.op (some 26) none (.load false 1 (.t 25))), (.op (some 27) none (.len .slice (.t 26))), (.op (some 28) none (.ibin .eql (.t 27) (.c (.v (.int .i64 0)))))]) (.cond (.t 28) (.seq (.ops [(.op (some 29) none (.load true 6 (.t 3))), (.op none none (.store 6 (.t 6) (.t 29)))]) .ret) .skip)) (.seq (.ops [(.op (some 7) none (.move (.c (.v (.slice none 0 0)))))]) (.seq (.seq (.ops [(.op (some 8) none (.move (.c (.v (.int .i64 0)))))]) (.block 0 (.loop (.seq (.seq (.ops [(.op (some 30) none (.move (.t 8))), (.op (some 31) none (.fld 5 (.t 3))), (.op (some 32) none (.load false 1 (.t 31))), (.op (some 33) none (.len .slice (.t 32))), (.op (some 34) none (.ibin .lss (.t 30) (.t 33)))]) (.cond (.t 34) .skip (.exit 0))) (.seq (.block 1 (.seq (.ops [(.op (some 37) none (.move (.t 1))), (.op (some 9) none (.move (.t 37)))]) (.seq (.seq (.ops [(.op (some 38) none (.move (.t 8))), (.op (some 39) none (.ibin .eql (.t 38) (.c (.v (.int .i64 1))))), (.op (some 40) none (.move (.t 39))), (.op (some 41) (some (40, true)) (.fld 0 (.t 3))), (.op (some 42) (some (40, true)) (.load false 1 (.t 41))), (.call (some 43) (some (40, true)) (.c (.fn (.func 127) [] [])) [(.t 42)]), (.op (some 44) none (.pick (.t 40) (.t 43) (.c (.v (.bool false)))))]) (.cond (.t 44) (.ops [(.op (some 45) none (.move (.t 9))), (.op (some 46) none (.ibin .add (.t 45) (.c (.v (.int .i64 1))))), (.op (some 9) none (.move (.t 46)))]) .skip)) (.ops [(.op (some 47) none (.move (.t 7))), (.op (some 48) none (.fld 5 (.t 3))), (.op (some 49) none (.load false 1 (.t 48))), (.op (some 50) none (.move (.t 8))), (.op (some 51) none (.idx 6 (.t 49) (.t 50))), (.op (some 52) none (.load true 6 (.t 51))), (.op (some 53) none (.move (.t 9))), (.op (some 54) none (.move (.t 2))), (.call (some 55) none (.c (.fn (.func 79) [] [])) [(.t 52), (.t 53), (.t 54)]), (.op (some 56) none (.buildS 6 1 [(.v (.int .i64 0)), (.v (.int .i64 0)), (.v (.bool false)), (.v (.string (ByteArray.mk #[]))), (.v (.slice none 0 0)), (.v (.slice none 0 0))] [(0, (6, (.t 55)))])), (.op (some 57) none (.append 6 88 (.t 47) (.t 56))), (.op (some 7) none (.move (.t 57)))])))) (.ops [(.op (some 35) none (.move (.t 8))), (.op (some 36) none (.ibin .add (.t 35) (.c (.v (.int .i64 1))))), (.op (some 8) none (.move (.t 36)))])))))) (.seq (.ops [(.op (some 58) none (.move (.t 7))), (.op (some 59) none (.fld 5 (.t 3))), (.op none none (.store 1 (.t 59) (.t 58)))]) (.seq (.ops [(.op (some 60) none (.load true 6 (.t 3))), (.op none none (.store 6 (.t 6) (.t 60)))]) .ret)))))))⟩
theorem cf79 : compFn Try.prog 79 [] = some c79 := by kernel_rfl
end Go.Proofs.Ytooaiddfokbffaa.E
