/- Calls: what they laid out is dropped, what is only read is frozen, loops by what holds at each round. Conditions: none. -/
import Derived.Test.YtooaiddfokbffaaE21
set_option linter.unusedVariables false
set_option linter.unusedSimpArgs false
namespace Go.Proofs.Ytooaiddfokbffaa.E
open Go

/-- No block from a number on. -/
inductive Old (n : Nat) : AV → Prop
  | v (x : Value) : Old n (.v x)
  | ptr (b off : Nat) (h : b < n) : Old n (.ptr b off)
  | slc (b off es len lo : Nat) (ex : Bool) (h : b < n) : Old n (.slc b off es len lo ex)
  | ro (len lo : Nat) (ex : Bool) (cells : List AV) (h : ∀ x, x ∈ cells → Old n x) : Old n (.ro len lo ex cells)
  | rop (cells : List AV) (off : Nat) (h : ∀ x, x ∈ cells → Old n x) : Old n (.rop cells off)
  | fn (f : Fn) (first captured : List AV) (h1 : ∀ x, x ∈ first → Old n x) (h2 : ∀ x, x ∈ captured → Old n x) : Old n (.fn f first captured)
  | agg (cells : List AV) (h : ∀ x, x ∈ cells → Old n x) : Old n (.agg cells)
  | tup (vs : List AV) (h : ∀ x, x ∈ vs → Old n x) : Old n (.tup vs)
  | ifc (t : TypeId) (x : AV) (h : Old n x) : Old n (.ifc t x)
  | mp (b : Nat) (h : b < n) : Old n (.mp b)
  | ch (b : Nat) (h : b < n) : Old n (.ch b)

inductive OldO (n : Nat) : AObj → Prop
  | cells (l : List AV) (h : ∀ x, x ∈ l → Old n x) : OldO n (.cells l)
  | map (es : List (AV × AV × Nat)) (clock : Nat) (h : ∀ p, p ∈ es → Old n p.1 ∧ Old n p.2.1) : OldO n (.map es clock)
  | iterS (s : ByteArray) (pos : Nat) : OldO n (.iterS s pos)
  | chan (cap : Nat) (buf : List AV) (closed : Bool) (s r : Nat) (h : ∀ x, x ∈ buf → Old n x) : OldO n (.chan cap buf closed s r)

def Emb.cut (e : Emb) (n : Nat) : Emb := ⟨fun b => if b < n then e.map b else none, e.live, n⟩

theorem cut_map (e : Emb) (n b : Nat) : (e.cut n).map b = if b < n then e.map b else none := rfl
theorem cut_hits {e : Emb} {n c : Nat} (h : (e.cut n).hits c) : e.hits c := by
  obtain ⟨b, h1, h2⟩ := h
  rw [cut_map] at h1
  split at h1
  · exact ⟨b, h1, h2⟩
  · cases h1

section
variable {e : Emb} {w : World} {H : AHeap} {P : Program}

theorem VRel.cut {n : Nat} {x : AV} {u : Value} (h : VRel e w x u) (ho : Old n x) : VRel (e.cut n) w x u := by
  induction h with
  | v x h => exact .v x h
  | ptr b off c hc => cases ho with | ptr _ _ hb => exact .ptr b off c (by rw [cut_map, if_pos hb]; exact hc)
  | slc b off es len lo ex c k hm hl hlo hcap cs t fr hw hs => cases ho with | slc _ _ _ _ _ _ hb => exact .slc b off es len lo ex c k (by rw [cut_map, if_pos hb]; exact hm) hl hlo hcap cs t fr hw hs
  | ro len lo ex cells a k us hl hlo hcap hn hs hr ih => cases ho with | ro _ _ _ _ hc => exact .ro len lo ex cells a k us hl hlo hcap hn (fun i u hu => ⟨(hs i u hu).1, fun hh => (hs i u hu).2 (cut_hits hh)⟩) fun i x u hx hu => ih i x u hx hu (hc x (List.mem_of_getElem? hx))
  | rop cells off a us hn hs hr ih => cases ho with | rop _ _ hc => exact .rop cells off a us hn (fun i u hu => ⟨(hs i u hu).1, fun hh => (hs i u hu).2 (cut_hits hh)⟩) fun i x u hx hu => ih i x u hx hu (hc x (List.mem_of_getElem? hx))
  | fn f first captured fs cs hf hc h1 h2 ih1 ih2 => cases ho with | fn _ _ _ k1 k2 => exact .fn f first captured fs cs hf hc (fun i x u hx hu => ih1 i x u hx hu (k1 x (List.mem_of_getElem? hx))) fun i x u hx hu => ih2 i x u hx hu (k2 x (List.mem_of_getElem? hx))
  | agg cells cs hn h ih => cases ho with | agg _ hc => exact .agg cells cs hn fun i x u hx hu => ih i x u hx hu (hc x (List.mem_of_getElem? hx))
  | tup vs cs hn h ih => cases ho with | tup _ hc => exact .tup vs cs hn fun i x u hx hu => ih i x u hx hu (hc x (List.mem_of_getElem? hx))
  | ifc t x u h ih => cases ho with | ifc _ _ hx => exact .ifc t x u (ih hx)
  | mp b r hm => cases ho with | mp _ hb => exact .mp b r (by rw [cut_map, if_pos hb]; exact hm)
  | ch b r hm => cases ho with | ch _ hb => exact .ch b r (by rw [cut_map, if_pos hb]; exact hm)

theorem ObjRel.cut {n c : Nat} {o : AObj} (h : ObjRel e w c o) (ho : OldO n o) : ObjRel (e.cut n) w c o := by
  cases ho with
  | cells l hl => obtain ⟨cs, t, h1, h2⟩ := h; exact ⟨cs, t, h1, fun i x hx => let ⟨u, h3, h4⟩ := h2 i x hx; ⟨u, h3, h4.cut (hl x (List.mem_of_getElem? hx))⟩⟩
  | map es clock hl => obtain ⟨ens, h1, h2, h3⟩ := h; exact ⟨ens, h1, h2, fun i k v m ent h4 h5 => let ⟨a, b, c⟩ := h3 i k v m ent h4 h5; ⟨a.cut (hl _ (List.mem_of_getElem? h4)).1, b.cut (hl _ (List.mem_of_getElem? h4)).2, c⟩⟩
  | iterS s p => exact h
  | chan cap buf closed s r hl => obtain ⟨us, h1, h2⟩ := h; exact ⟨us, h1, h2.1, fun i x u hx hu => (h2.2 i x u hx hu).cut (hl x (List.mem_of_getElem? hx))⟩

theorem cut_get (H : AHeap) (n b : Nat) : (H.cut n).get b = if b < n then H.get b else none := rfl

theorem VRel.old {n : Nat} (hn : ∀ b c, e.map b = some c → b < n) {x : AV} {u : Value} (h : VRel e w x u) : Old n x := by
  induction h with
  | v x h => exact .v x
  | ptr b off c hc => exact .ptr b off (hn b c hc)
  | slc b off es len lo ex c k hm hl hlo hcap cs t fr hw hs => exact .slc b off es len lo ex (hn b c hm)
  | ro len lo ex cells a k us hl hlo hcap hn' hs hr ih =>
    refine .ro len lo ex cells fun x hx => ?_
    obtain ⟨i, hi, rfl⟩ := List.getElem_of_mem hx
    exact ih i _ _ (List.getElem?_eq_getElem hi) (List.getElem?_eq_getElem (hn' ▸ hi))
  | rop cells off a us hn' hs hr ih =>
    refine .rop cells off fun x hx => ?_
    obtain ⟨i, hi, rfl⟩ := List.getElem_of_mem hx
    exact ih i _ _ (List.getElem?_eq_getElem hi) (List.getElem?_eq_getElem (hn' ▸ hi))
  | fn f first captured fs cs hf hc h1 h2 ih1 ih2 =>
    refine .fn f first captured (fun x hx => ?_) fun x hx => ?_
    · obtain ⟨i, hi, rfl⟩ := List.getElem_of_mem hx
      exact ih1 i _ _ (List.getElem?_eq_getElem hi) (Array.getElem?_eq_getElem (hf ▸ hi))
    · obtain ⟨i, hi, rfl⟩ := List.getElem_of_mem hx
      exact ih2 i _ _ (List.getElem?_eq_getElem hi) (Array.getElem?_eq_getElem (hc ▸ hi))
  | agg cells cs hn' h ih =>
    refine .agg cells fun x hx => ?_
    obtain ⟨i, hi, rfl⟩ := List.getElem_of_mem hx
    exact ih i _ _ (List.getElem?_eq_getElem hi) (Array.getElem?_eq_getElem (hn' ▸ hi))
  | tup cells cs hn' h ih =>
    refine .tup cells fun x hx => ?_
    obtain ⟨i, hi, rfl⟩ := List.getElem_of_mem hx
    exact ih i _ _ (List.getElem?_eq_getElem hi) (Array.getElem?_eq_getElem (hn' ▸ hi))
  | ifc t x u h ih => exact .ifc t x ih
  | mp b r hm => exact .mp b (hn b r hm)
  | ch b r hm => exact .ch b (hn b r hm)

theorem HRel.oldO (h : HRel e H w) {b c : Nat} {o : AObj} (hb : H.get b = some o) (hc : e.map b = some c) : OldO H.next o := by
  have hn : ∀ b c, e.map b = some c → b < H.next := fun b c hm => h.mlt hm
  obtain ⟨_, ho⟩ := h.obj b o c hb hc
  cases o with
  | cells l =>
    obtain ⟨cs, t, h1, h2⟩ := ho
    refine .cells l fun x hx => ?_
    obtain ⟨i, hi⟩ := List.getElem?_of_mem hx
    obtain ⟨u, _, h4⟩ := h2 i x hi
    exact h4.old hn
  | map es clock =>
    obtain ⟨ens, h1, h2, h3⟩ := ho
    refine .map es clock fun p hp => ?_
    obtain ⟨i, hi, rfl⟩ := List.getElem_of_mem hp
    obtain ⟨k1, k2, _⟩ := h3 i _ _ _ _ (List.getElem?_eq_getElem hi) (Array.getElem?_eq_getElem (h2 ▸ hi))
    exact ⟨k1.old hn, k2.old hn⟩
  | iterS s p => exact .iterS s p
  | chan cap buf closed s r =>
    obtain ⟨us, h1, h2⟩ := ho
    refine .chan cap buf closed s r fun x hx => ?_
    obtain ⟨i, hi, rfl⟩ := List.getElem_of_mem hx
    have hi' : i < us.toList.length := by rw [h2.1]; exact hi
    exact (h2.2 i _ _ (List.getElem?_eq_getElem hi) (List.getElem?_eq_getElem hi')).old hn

theorem HRel.cut {n : Nat} (h : HRel e H w) (hn : n ≤ H.next) (ho : ∀ b, b < n → ∀ o c, H.get b = some o → e.map b = some c → OldO n o) : HRel (e.cut n) (H.cut n) w := by
  refine ⟨rfl, fun b hb => by rw [cut_map, if_neg (show ¬ b < n from Nat.not_lt.2 hb)], fun b b' c h1 h2 l1 l2 => ?_, fun b c h1 l1 => ?_, fun b o c h1 h2 => ?_, fun b o h1 => ?_, fun b c h1 => ?_⟩
  · rw [cut_map] at h1 h2
    split at h1
    · split at h2
      · exact h.inj b b' c h1 h2 l1 l2
      · cases h2
    · cases h1
  · rw [cut_map] at h1
    split at h1
    · rename_i hb
      obtain ⟨o, h2⟩ := h.dom b c h1 l1
      exact ⟨o, by rw [cut_get, if_pos hb]; exact h2⟩
    · cases h1
  · rw [cut_get] at h1
    rw [cut_map] at h2
    split at h1
    · rename_i hb
      rw [if_pos hb] at h2
      obtain ⟨h3, h4⟩ := h.obj b o c h1 h2
      exact ⟨h3, h4.cut (ho b hb o c h1 h2)⟩
    · cases h1
  · rw [cut_get] at h1
    split at h1
    · assumption
    · cases h1
  · rw [cut_map] at h1
    split at h1
    · exact h.lt b c h1
    · cases h1

theorem Evo.cut {e' : Emb} {w' : World} (h : Evo e w e' w') (hH : HRel e H w) : Evo e w (e'.cut H.next) w' where
  os := h.os
  output := h.output
  tape := h.tape
  size := h.size
  frame := h.frame
  next := by rw [hH.next]; exact Nat.le_refl _
  old := fun b c hb => by rw [cut_map, if_pos (hH.mlt hb)]; exact h.old b c hb
  hits := fun c hc => h.hits c (cut_hits hc)
  sizes := h.sizes
  un := fun b hb hm => by
    rw [cut_map]
    split
    · exact h.un b hb hm
    · rfl

theorem LRel.old {args : List AV} {us : List Value} (hL : LRel e w args us) (hH : HRel e H w) : ∀ y, y ∈ args → Old H.next y := by
  intro y hy
  obtain ⟨i, hi, rfl⟩ := List.getElem_of_mem hy
  exact (hL.2 i _ _ (List.getElem?_eq_getElem hi) (List.getElem?_eq_getElem (hL.1 ▸ hi))).old fun b c hm => hH.mlt hm

/-- What a call laid out is dropped, where nothing that stays leads there. -/
theorem SCall.cut {f : FuncId} {args : List AV} {R : AV → AHeap → Prop} (h : SCall P f args H R)
    (ho : (∀ y, y ∈ args → Old H.next y) → ∀ x H', R x H' → H.next ≤ H'.next ∧ Old H.next x ∧ ∀ b, b < H.next → ∀ o, H'.get b = some o → H.get b = some o ∨ OldO H.next o) :
    SCall P f args H fun x H'' => ∃ H', R x H' ∧ H'' = H'.cut H.next := by
  refine ⟨h.1, fun e w us hH hL => (h.2 e w us hH hL).mono fun en w' hp => ?_⟩
  obtain ⟨u, x, H', e', rfl, h1, h2, h3, h4⟩ := hp
  obtain ⟨k1, k2, k3⟩ := ho (hL.old hH) x H' h1
  refine ⟨u, x, H'.cut H.next, e'.cut H.next, rfl, ⟨H', h1, rfl⟩, h2.cut k1 (fun b hb o c hg hm => ?_), h3.cut k2, h4.cut hH⟩
  rcases k3 b hb o hg with k | k
  · cases he : e.map b with
    | none => have := h4.un b (by rw [hH.next]; exact hb) he; rw [hm] at this; cases this
    | some c' => exact hH.oldO k he
  · exact k

/-- The same, where what stays is told. -/
theorem SCall.cutTo {f : FuncId} {args : List AV} {R : AV → AHeap → Prop} (H1 : AHeap) (h : SCall P f args H R) (hn : H1.next = H.next)
    (hw : (∀ b o, H.get b = some o → b < H.next) → ∀ b o, H1.get b = some o → b < H.next)
    (ho : (∀ y, y ∈ args → Old H.next y) → ∀ x H', R x H' → H.next ≤ H'.next ∧ Old H.next x ∧ (∀ b, b < H.next → H'.get b = H1.get b) ∧ ∀ b, b < H.next → ∀ o, H1.get b = some o → H.get b = some o ∨ OldO H.next o) :
    SCall P f args H fun x H' => (∃ H'', R x H'') ∧ H' = H1 := by
  have h' := h.cut fun ha x H' hr => let ⟨k1, k2, k3, k4⟩ := ho ha x H' hr; ⟨k1, k2, fun b hb o hg => k4 b hb o (by rw [← k3 b hb]; exact hg)⟩
  refine ⟨h'.1, fun e w us hH hL => (h'.2 e w us hH hL).mono fun en w' hp => ?_⟩
  obtain ⟨u, x, _, e', rfl, ⟨H', h1, rfl⟩, h2, h3, h4⟩ := hp
  obtain ⟨k1, k2, k3, k4⟩ := ho (hL.old hH) x H' h1
  have heq : H'.cut H.next = H1 := by
    cases H1 with
    | mk g n =>
      simp only at hn
      subst hn
      simp only [AHeap.cut, AHeap.mk.injEq, and_true]
      funext b
      split
      · rename_i hb; exact k3 b hb
      · rename_i hb
        cases hg : g b with
        | none => rfl
        | some o => exact absurd (hw hH.get b o hg) hb
  rw [heq] at h2
  exact ⟨u, x, H1, e', rfl, ⟨⟨H', h1⟩, rfl⟩, h2, h3, h4⟩

theorem SCall.pure {f : FuncId} {args : List AV} {R : AV → AHeap → Prop} (h : SCall P f args H R)
    (ho : (∀ y, y ∈ args → Old H.next y) → ∀ x H', R x H' → H.next ≤ H'.next ∧ Old H.next x ∧ ∀ b, b < H.next → H'.get b = H.get b) : SCall P f args H fun x H' => (∃ H'', R x H'') ∧ H' = H :=
  h.cutTo H rfl (fun h => h) fun ha x H' hr => let ⟨k1, k2, k3⟩ := ho ha x H' hr; ⟨k1, k2, k3, fun b _ o hg => .inl hg⟩

def Ext (H H' : AHeap) : Prop := H.next ≤ H'.next ∧ ∀ b, b < H.next → H'.get b = H.get b

theorem SCall.val {f : FuncId} {args : List AV} {v : Value} (h : SCall P f args H fun x H' => x = .v v ∧ Ext H H') : SCall P f args H fun x H' => x = .v v ∧ H' = H :=
  (h.pure fun _ x H' ⟨h1, h2, h3⟩ => ⟨h2, by rw [h1]; exact .v _, h3⟩).mono fun x H' ⟨⟨_, h1, _⟩, h2⟩ => ⟨h1, h2⟩

theorem SCall.valO {f : FuncId} {args : List AV} {x0 : AV} (ho : Old H.next x0) (h : SCall P f args H fun x H' => x = x0 ∧ Ext H H') : SCall P f args H fun x H' => x = x0 ∧ H' = H :=
  (h.pure fun _ x H' ⟨h1, h2, h3⟩ => ⟨h2, by rw [h1]; exact ho, h3⟩).mono fun x H' ⟨⟨_, h1, _⟩, h2⟩ => ⟨h1, h2⟩

/-- The same heap, a while on: what was there is as it was. -/
theorem HRel.keep {e0 e' : Emb} {w' : World} (hH : HRel e H w) (hv : Evo Emb.empty w e' w') : HRel e H w' ∧ Evo e w e w' := by
  have hno : ∀ c, ¬ Emb.empty.hits c := fun c ⟨b, hb, _⟩ => by cases hb
  have hv' : Evo e w e w' := ⟨⟨hv.os, hv.output, hv.tape, hv.size, fun c hc _ => hv.frame c hc (hno c), Nat.le_refl _, fun _ _ h => h, fun _ h => .inr h, hv.sizes⟩, fun _ _ h => h⟩
  exact ⟨hH.of_same hv' fun c ⟨b, hb, _⟩ => hv.frame c (hH.lt b c hb) (hno c), hv'⟩

theorem HRel.none (w : World) : HRel Emb.empty AHeap.empty w :=
  ⟨rfl, fun _ _ => rfl, fun _ _ _ h => (by cases h), fun _ _ h => (by cases h), fun _ _ _ h => (by cases h), fun _ _ h => (by cases h), fun _ _ h => (by cases h)⟩

/-- A call that only reads, and answers with a plain value: from the empty heap to any. -/
theorem SCall.frame {f : FuncId} {args args' : List AV} {R : AV → Prop} (h : SCall P f args' AHeap.empty fun x _ => R x) (hs : ∀ x, R x → ∃ v, x = .v v)
    (hf : ∀ e w us, HRel e H w → LRel e w args us → LRel Emb.empty w args' us) : SCall P f args H fun x H' => R x ∧ H' = H := by
  refine ⟨h.1, fun e w us hH hL => (h.2 Emb.empty w us (HRel.none w) (hf e w us hH hL)).mono fun en w' hp => ?_⟩
  obtain ⟨u, x, H', e', rfl, h1, h2, h3, h4⟩ := hp
  obtain ⟨v, rfl⟩ := hs x h1
  obtain ⟨k1, k2⟩ := hH.keep (e0 := e) h4
  refine ⟨u, .v v, H, e, rfl, ⟨h1, rfl⟩, k1, ?_, k2⟩
  cases h3 with | v _ hx => exact .v _ hx

/-! ### Freezing -/
inductive Frz (H : AHeap) : AV → AV → Prop
  | v (x : Value) : Frz H (.v x) (.v x)
  | slc (b off es len lo : Nat) (ex : Bool) (l cs : List AV) (g : Nat → AV) (hb : H.get b = some (.cells l)) (hg : ∀ (i : Nat) (y : AV), cs[i]? = some y → l[off + i]? = some (g i))
      (hz : ∀ (i : Nat) (y : AV), cs[i]? = some y → Frz H (g i) y) : Frz H (.slc b off es len lo ex) (.ro len lo ex cs)
  | ptr (b off : Nat) (l cs : List AV) (hb : H.get b = some (.cells l)) (hn : cs.length = l.length) (hz : ∀ (i : Nat) (x y : AV), l[i]? = some x → cs[i]? = some y → Frz H x y) : Frz H (.ptr b off) (.rop cs off)
  | ro (len lo : Nat) (ex : Bool) (l cs : List AV) (hn : cs.length ≤ l.length) (hz : ∀ (i : Nat) (x y : AV), l[i]? = some x → cs[i]? = some y → Frz H x y) : Frz H (.ro len lo ex l) (.ro len lo ex cs)
  | fn (f : Fn) (a b a' b' : List AV) (hn : a'.length = a.length) (hn' : b'.length = b.length) (h1 : ∀ (i : Nat) (x y : AV), a[i]? = some x → a'[i]? = some y → Frz H x y)
      (h2 : ∀ (i : Nat) (x y : AV), b[i]? = some x → b'[i]? = some y → Frz H x y) : Frz H (.fn f a b) (.fn f a' b')
  | agg (l cs : List AV) (hn : cs.length = l.length) (hz : ∀ (i : Nat) (x y : AV), l[i]? = some x → cs[i]? = some y → Frz H x y) : Frz H (.agg l) (.agg cs)

theorem nohit (c : Nat) : ¬ Emb.empty.hits c := fun ⟨b, hb, _⟩ => by cases hb

theorem Frz.rel (hH : HRel e H w) {x y : AV} (h : Frz H x y) : ∀ u, VRel e w x u → VRel Emb.empty w y u := by
  induction h with
  | v x => intro u hu; cases hu with | v _ h => exact .v x h
  | slc b off es len lo ex l cs g hb hg hz ih =>
    intro u hu
    cases hu with
    | slc _ _ _ _ _ _ c k hm hl hlo hcap ws t fr hw hs =>
    obtain ⟨_, ws', t', h1, h2⟩ := hH.obj b _ c hb hm
    rw [hw] at h1
    injection h1 with h1
    injection h1 with h1 _ _
    subst h1
    refine .ro len lo ex cs ⟨c, off, none⟩ k ((List.range cs.length).map fun i => ws.getD (off + i) undef) hl hlo hcap (by simp) (fun i u hu => ⟨?_, nohit _⟩) (fun i y u hy hu => ?_)
    · simp only [List.getElem?_map, List.getElem?_range', Option.map_eq_some_iff] at hu
      obtain ⟨j, hj, rfl⟩ := hu
      rw [List.getElem?_eq_some_iff] at hj
      obtain ⟨hj1, hj2⟩ := hj
      simp at hj1 hj2
      subst hj2
      obtain ⟨u, h3, h4⟩ := h2 (off + i) _ (hg i _ (List.getElem?_eq_getElem hj1))
      rw [addr_add_plain]
      unfold World.cell?
      simp only [hw]
      rw [Array.getD_eq_getD_getElem?, h3]
      rfl
    · simp only [List.getElem?_map, Option.map_eq_some_iff] at hu
      obtain ⟨j, hj, rfl⟩ := hu
      rw [List.getElem?_eq_some_iff] at hj
      obtain ⟨hj1, hj2⟩ := hj
      simp at hj1 hj2
      subst hj2
      obtain ⟨u, h3, h4⟩ := h2 (off + i) _ (hg i y hy)
      rw [Array.getD_eq_getD_getElem?, h3]
      exact ih i y hy u h4
  | ptr b off l cs hb hn hz ih =>
    intro u hu
    cases hu with
    | ptr _ _ c hm =>
    obtain ⟨_, ws, t, h1, h2⟩ := hH.obj b _ c hb hm
    have key : (⟨c, 0, none⟩ : Addr).add off = ⟨c, off, none⟩ := by rw [addr_add_plain, Nat.zero_add]
    rw [← key]
    refine .rop cs off ⟨c, 0, none⟩ ((List.range cs.length).map fun i => ws.getD i undef) (by simp) (fun i u hu => ⟨?_, nohit _⟩) (fun i y u hy hu => ?_)
    · simp only [List.getElem?_map, Option.map_eq_some_iff] at hu
      obtain ⟨j, hj, rfl⟩ := hu
      rw [List.getElem?_eq_some_iff] at hj
      obtain ⟨hj1, hj2⟩ := hj
      simp at hj1 hj2
      subst hj2
      obtain ⟨u, h3, h4⟩ := h2 i _ (List.getElem?_eq_getElem (hn ▸ hj1))
      rw [addr_add_plain, Nat.zero_add]
      unfold World.cell?
      simp only [h1]
      rw [Array.getD_eq_getD_getElem?, h3]
      rfl
    · simp only [List.getElem?_map, Option.map_eq_some_iff] at hu
      obtain ⟨j, hj, rfl⟩ := hu
      rw [List.getElem?_eq_some_iff] at hj
      obtain ⟨hj1, hj2⟩ := hj
      simp at hj1 hj2
      subst hj2
      have hx := List.getElem?_eq_getElem (l := l) (i := i) (hn ▸ hj1)
      obtain ⟨u, h3, h4⟩ := h2 i _ hx
      rw [Array.getD_eq_getD_getElem?, h3]
      exact ih i _ y hx hy u h4
  | ro len lo ex l cs hn hz ih =>
    intro u hu
    cases hu with
    | ro _ _ _ _ a k us hl hlo hcap hn' hs hr =>
      have hsub : ∀ (i : Nat) (u : Value), (us.take cs.length)[i]? = some u → us[i]? = some u := fun i u hu => by
        rw [List.getElem?_take] at hu
        split at hu
        · exact hu
        · cases hu
      refine .ro len lo ex cs a k (us.take cs.length) hl hlo hcap (by rw [List.length_take]; omega) (fun i u hu => ⟨(hs i u (hsub i u hu)).1, nohit _⟩) fun i y u hy hu => ?_
      have hi : i < l.length := Nat.lt_of_lt_of_le (List.getElem?_eq_some_iff.1 hy).1 hn
      exact ih i _ y (List.getElem?_eq_getElem hi) hy u (hr i _ u (List.getElem?_eq_getElem hi) (hsub i u hu))
  | fn f a b a' b' hn hn' h1 h2 ih1 ih2 =>
    intro u hu
    cases hu with
    | fn _ _ _ fs cs hf hc k1 k2 =>
      refine .fn f a' b' fs cs (by omega) (by omega) (fun i y u hy hu => ?_) (fun i y u hy hu => ?_)
      · have hi : i < a.length := by rw [← hn]; exact (List.getElem?_eq_some_iff.1 hy).1
        exact ih1 i _ y (List.getElem?_eq_getElem hi) hy u (k1 i _ u (List.getElem?_eq_getElem hi) hu)
      · have hi : i < b.length := by rw [← hn']; exact (List.getElem?_eq_some_iff.1 hy).1
        exact ih2 i _ y (List.getElem?_eq_getElem hi) hy u (k2 i _ u (List.getElem?_eq_getElem hi) hu)
  | agg l cs hn hz ih =>
    intro u hu
    cases hu with
    | agg _ us hn' hr =>
      refine .agg cs us (by omega) fun i y u hy hu => ?_
      have hi : i < l.length := by rw [← hn]; exact (List.getElem?_eq_some_iff.1 hy).1
      exact ih i _ y (List.getElem?_eq_getElem hi) hy u (hr i _ u (List.getElem?_eq_getElem hi) hu)

theorem frz_list {args args' : List AV} (hn : args'.length = args.length) (h : ∀ (i : Nat) (x y : AV), args[i]? = some x → args'[i]? = some y → Frz H x y) {us : List Value} (hH : HRel e H w) (hL : LRel e w args us) : LRel Emb.empty w args' us := by
  refine ⟨by rw [hL.1, hn], fun i y u hy hu => ?_⟩
  have hi : i < args.length := by rw [← hn]; exact (List.getElem?_eq_some_iff.1 hy).1
  exact (h i _ y (List.getElem?_eq_getElem hi) hy).rel hH u (hL.2 i _ u (List.getElem?_eq_getElem hi) hu)

/-! ### Loops -/
theorem swp_loop {b : ACode} {Q : AExit → ASt → Prop} (I : Nat → ASt → Prop) {k : Nat} {st : ASt} (h0 : I k st)
    (hstep : ∀ k st, I k st → swp P b (thenQ (fun st' => ∃ k', k' < k ∧ I k' st') Q) st) : swp P (.loop b) Q st := by
  have key : ∀ n k st, k < n → I k st → loopN (swp P b) Q n st := by
    intro n
    induction n with
    | zero => intro k st h; omega
    | succ n ih =>
      intro k st hk hi
      refine swp_mono b (hstep k st hi) fun x st' h => ?_
      cases x with
      | normal => obtain ⟨k', h1, h2⟩ := h; exact ih k' st' (by omega) h2
      | ret => exact h
      | exit id => exact h
  exact ⟨k + 1, key (k + 1) k st (Nat.lt_succ_self k) h0⟩

end
end Go.Proofs.Ytooaiddfokbffaa.E
