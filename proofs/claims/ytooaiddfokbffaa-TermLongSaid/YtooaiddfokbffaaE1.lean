/- Abstract values and an abstract heap, and how the model's values and world follow them. Conditions: none. -/
import Derived.WalkKit
import Derived.Laws.World
set_option linter.unusedVariables false
set_option linter.unusedSimpArgs false
namespace Go.Proofs.Ytooaiddfokbffaa.E
open Go

/-- Abstract values: plain ones, places in blocks of the call's own, slices of these, slices and places that are only read. -/
inductive AV where
  | v (x : Value)
  | ptr (b off : Nat)
  | slc (b off es len lo : Nat) (ex : Bool)
  | ro (len lo : Nat) (ex : Bool) (cells : List AV)
  | rop (cells : List AV) (off : Nat)
  | fn (f : Fn) (first captured : List AV)
  | agg (cells : List AV)
  | tup (vs : List AV)
  | ifc (t : TypeId) (x : AV)
  | mp (b : Nat)
  | ch (b : Nat)
  deriving Inhabited

def uv : AV := .v undef

def AV.acells : AV → List AV
  | .agg cs => cs
  | x => [x]

def valOne : Value → Bool
  | .agg _ | .tuple _ => false
  | _ => true

def AV.one : AV → Bool
  | .agg _ | .tup _ => false
  | .v x => valOne x
  | _ => true

def notAgg : Value → Bool
  | .agg _ => false
  | _ => true

inductive AObj where
  | cells (l : List AV)
  | map (es : List (AV × AV × Nat)) (clock : Nat)
  | iterS (s : ByteArray) (pos : Nat)
  | chan (cap : Nat) (buf : List AV) (closed : Bool) (sent received : Nat)

structure AHeap where
  get : Nat → Option AObj
  next : Nat

def AHeap.empty : AHeap := ⟨fun _ => none, 0⟩
def AHeap.new (H : AHeap) (o : AObj) : AHeap := ⟨fun b => if b = H.next then some o else H.get b, H.next + 1⟩
def AHeap.set (H : AHeap) (b : Nat) (o : AObj) : AHeap := ⟨fun x => if x = b then some o else H.get x, H.next⟩
def AHeap.kill (H : AHeap) (b : Nat) : AHeap := ⟨fun x => if x = b then none else H.get x, H.next⟩
/-- What was there at a time, as it is now. -/
def AHeap.cut (H : AHeap) (n : Nat) : AHeap := ⟨fun x => if x < n then H.get x else none, n⟩

/-- Where the blocks lie, and which of them are still the call's own. -/
structure Emb where
  map : Nat → Option Nat
  live : Nat → Bool
  next : Nat

def Emb.empty : Emb := ⟨fun _ => none, fun _ => false, 0⟩
def Emb.add (e : Emb) (b c : Nat) : Emb := ⟨fun x => if x = b then some c else e.map x, fun x => if x = b then true else e.live x, e.next⟩
def Emb.push (e : Emb) (c : Nat) : Emb := ⟨fun b => if b = e.next then some c else e.map b, fun b => if b = e.next then true else e.live b, e.next + 1⟩
def Emb.kill (e : Emb) (b : Nat) : Emb := ⟨e.map, fun x => if x = b then false else e.live x, e.next⟩
def Emb.hits (e : Emb) (c : Nat) : Prop := ∃ b, e.map b = some c ∧ e.live b = true

inductive VRel (e : Emb) (w : World) : AV → Value → Prop
  | v (x : Value) (h : notAgg x = true) : VRel e w (.v x) x
  | ptr (b off c : Nat) (h : e.map b = some c) : VRel e w (.ptr b off) (.pointer (some ⟨c, off, none⟩))
  | slc (b off es len lo : Nat) (ex : Bool) (c k : Nat) (h : e.map b = some c) (hl : len ≤ k) (hlo : lo ≤ k) (hc : ex = true → k = lo)
      (cs : Array Value) (t : TypeId) (fr : Nat × Nat) (hw : w.heap[c]? = some (Obj.cells cs t fr)) (hs : off + k * es ≤ cs.size) :
      VRel e w (.slc b off es len lo ex) (.slice (some ⟨c, off, none⟩) len k)
  | ro (len lo : Nat) (ex : Bool) (cells : List AV) (a : Addr) (k : Nat) (us : List Value) (hl : len ≤ k) (hlo : lo ≤ k) (hc : ex = true → k = lo)
      (hn : us.length = cells.length) (hs : ∀ (i : Nat) (u : Value), us[i]? = some u → w.cell? (a.add i) = some u ∧ ¬ e.hits a.block)
      (hr : ∀ (i : Nat) (x : AV) (u : Value), cells[i]? = some x → us[i]? = some u → VRel e w x u) : VRel e w (.ro len lo ex cells) (.slice (some a) len k)
  | rop (cells : List AV) (off : Nat) (a : Addr) (us : List Value)
      (hn : us.length = cells.length) (hs : ∀ (i : Nat) (u : Value), us[i]? = some u → w.cell? (a.add i) = some u ∧ ¬ e.hits a.block)
      (hr : ∀ (i : Nat) (x : AV) (u : Value), cells[i]? = some x → us[i]? = some u → VRel e w x u) : VRel e w (.rop cells off) (.pointer (some (a.add off)))
  | fn (f : Fn) (first captured : List AV) (fs cs : Array Value) (hf : fs.size = first.length) (hc : cs.size = captured.length)
      (h1 : ∀ (i : Nat) (x : AV) (u : Value), first[i]? = some x → fs[i]? = some u → VRel e w x u)
      (h2 : ∀ (i : Nat) (x : AV) (u : Value), captured[i]? = some x → cs[i]? = some u → VRel e w x u) : VRel e w (.fn f first captured) (.func f fs cs)
  | agg (cells : List AV) (cs : Array Value) (hn : cs.size = cells.length)
      (h : ∀ (i : Nat) (x : AV) (u : Value), cells[i]? = some x → cs[i]? = some u → VRel e w x u) : VRel e w (.agg cells) (.agg cs)
  | tup (vs : List AV) (cs : Array Value) (hn : cs.size = vs.length)
      (h : ∀ (i : Nat) (x : AV) (u : Value), vs[i]? = some x → cs[i]? = some u → VRel e w x u) : VRel e w (.tup vs) (.tuple cs)
  | ifc (t : TypeId) (x : AV) (u : Value) (h : VRel e w x u) : VRel e w (.ifc t x) (.iface t u)
  | mp (b r : Nat) (h : e.map b = some r) : VRel e w (.mp b) (.map (some r))
  | ch (b r : Nat) (h : e.map b = some r) : VRel e w (.ch b) (.chan (some r))

/-- Two lists, place by place. -/
def LRel (e : Emb) (w : World) (xs : List AV) (us : List Value) : Prop :=
  us.length = xs.length ∧ ∀ (i : Nat) (x : AV) (u : Value), xs[i]? = some x → us[i]? = some u → VRel e w x u

/-- The world has gone on: what no block of the call's own bears is as it was. -/
structure Evo0 (e : Emb) (w : World) (e' : Emb) (w' : World) : Prop where
  os : w'.os = w.os
  output : w'.output = w.output
  tape : w'.tape = w.tape
  size : w.heap.size ≤ w'.heap.size
  frame : ∀ c, c < w.heap.size → ¬ e.hits c → w'.heap[c]? = w.heap[c]?
  next : e.next ≤ e'.next
  old : ∀ b c, e.map b = some c → e'.map b = some c
  hits : ∀ c, e'.hits c → w.heap.size ≤ c ∨ e.hits c
  sizes : ∀ (c : Nat) (cs : Array Value) (t : TypeId) (fr : Nat × Nat), w.heap[c]? = some (Obj.cells cs t fr) → ∃ (cs' : Array Value) (t' : TypeId) (fr' : Nat × Nat), w'.heap[c]? = some (Obj.cells cs' t' fr') ∧ cs'.size = cs.size

theorem Evo0.refl (e : Emb) (w : World)   : Evo0 e w e w :=
  ⟨rfl, rfl, rfl, Nat.le_refl _, fun _ _ _ => rfl, Nat.le_refl _, fun _ _ h => h, fun _ h => .inr h, fun _ cs t fr h => ⟨cs, t, fr, h, rfl⟩⟩

theorem Evo0.trans {e e1 e2 : Emb} {w w1 w2 : World} (h : Evo0 e w e1 w1) (k : Evo0 e1 w1 e2 w2) : Evo0 e w e2 w2 where
  os := k.os.trans h.os
  output := k.output.trans h.output
  tape := k.tape.trans h.tape
  size := Nat.le_trans h.size k.size
  frame := fun c hc hn => by
    rw [k.frame c (Nat.lt_of_lt_of_le hc h.size) (fun hh => ?_), h.frame c hc hn]
    rcases h.hits c hh with h1 | h1
    · omega
    · exact hn h1
  next := Nat.le_trans h.next k.next
  old := fun b c hb => k.old b c (h.old b c hb)
  hits := fun c hc => by
    rcases k.hits c hc with h1 | h1
    · exact .inl (Nat.le_trans h.size h1)
    · exact h.hits c h1
  sizes := fun c cs t fr hc => by
    obtain ⟨cs1, t1, fr1, h1, h2⟩ := h.sizes c cs t fr hc
    obtain ⟨cs2, t2, fr2, h3, h4⟩ := k.sizes c cs1 t1 fr1 h1
    exact ⟨cs2, t2, fr2, h3, h4.trans h2⟩

/-- The same, and what was laid out and lay nowhere lies nowhere yet. -/
structure Evo (e : Emb) (w : World) (e' : Emb) (w' : World) : Prop extends Evo0 e w e' w' where
  un : ∀ b, b < e.next → e.map b = none → e'.map b = none

theorem Evo.refl (e : Emb) (w : World) : Evo e w e w := ⟨Evo0.refl e w, fun _ _ h => h⟩
theorem Evo.trans {e e1 e2 : Emb} {w w1 w2 : World} (h : Evo e w e1 w1) (k : Evo e1 w1 e2 w2) : Evo e w e2 w2 :=
  ⟨h.toEvo0.trans k.toEvo0, fun b hb hm => k.un b (Nat.lt_of_lt_of_le hb h.next) (h.un b hb hm)⟩

theorem addr_add_block (a : Addr) (i : Nat) : (a.add i).block = a.block := by unfold Addr.add; split <;> rfl
theorem addr_add_add (a : Addr) (i j : Nat) : (a.add i).add j = a.add (i + j) := by
  unfold Addr.add
  by_cases h1 : i = 0 <;> by_cases h2 : j = 0 <;> simp [h1, h2, Nat.add_assoc]
theorem addr_add_plain (c o j : Nat) : (⟨c, o, none⟩ : Addr).add j = ⟨c, o + j, none⟩ := by unfold Addr.add; split <;> simp_all

theorem Evo0.cell {e e' : Emb} {w w' : World} (h : Evo0 e w e' w') {a : Addr} {u : Value} (hc : w.cell? a = some u) (hn : ¬ e.hits a.block) : w'.cell? a = some u := by
  have hlt := World.block_lt_of_cell? w a hc
  unfold World.cell? at hc ⊢
  rw [h.frame a.block hlt hn]
  exact hc

theorem Evo0.nhits {e e' : Emb} {w w' : World} (h : Evo0 e w e' w') {c : Nat} (hc : c < w.heap.size) (hn : ¬ e.hits c) : ¬ e'.hits c := by
  intro hh
  rcases h.hits c hh with h1 | h1
  · omega
  · exact hn h1

theorem VRel.evo0 {e e' : Emb} {w w' : World} (h : Evo0 e w e' w') {x : AV} {u : Value} (hx : VRel e w x u) : VRel e' w' x u := by
  induction hx with
  | v x h => exact .v x h
  | ptr b off c hc => exact .ptr b off c (h.old b c hc)
  | slc b off es len lo ex c k hm hl hlo hcap cs t fr hw hs =>
    obtain ⟨cs', t', fr', h5, h6⟩ := h.sizes c cs t fr hw
    exact .slc b off es len lo ex c k (h.old b c hm) hl hlo hcap cs' t' fr' h5 (by omega)
  | ro len lo ex cells a k us hl hlo hcap hn hs hr ih =>
    refine .ro len lo ex cells a k us hl hlo hcap hn (fun i u hu => ?_) ih
    obtain ⟨h1, h2⟩ := hs i u hu
    refine ⟨h.cell h1 (by rw [addr_add_block]; exact h2), ?_⟩
    exact h.nhits (by have := World.block_lt_of_cell? w _ h1; rwa [addr_add_block] at this) h2
  | rop cells off a us hn hs hr ih =>
    refine .rop cells off a us hn (fun i u hu => ?_) ih
    obtain ⟨h1, h2⟩ := hs i u hu
    refine ⟨h.cell h1 (by rw [addr_add_block]; exact h2), ?_⟩
    exact h.nhits (by have := World.block_lt_of_cell? w _ h1; rwa [addr_add_block] at this) h2
  | fn f first captured fs cs hf hc h1 h2 ih1 ih2 => exact .fn f first captured fs cs hf hc ih1 ih2
  | agg cells cs hn h ih => exact .agg cells cs hn ih
  | tup vs cs hn h ih => exact .tup vs cs hn ih
  | ifc t x u h ih => exact .ifc t x u ih
  | mp b r hm => exact .mp b r (h.old b r hm)
  | ch b r hm => exact .ch b r (h.old b r hm)

theorem VRel.evo {e e' : Emb} {w w' : World} (h : Evo e w e' w') {x : AV} {u : Value} (hx : VRel e w x u) : VRel e' w' x u := hx.evo0 h.toEvo0

theorem LRel.evo0 {e e' : Emb} {w w' : World} (h : Evo0 e w e' w') {xs : List AV} {us : List Value} (hx : LRel e w xs us) : LRel e' w' xs us :=
  ⟨hx.1, fun i x u h1 h2 => (hx.2 i x u h1 h2).evo0 h⟩
theorem LRel.evo {e e' : Emb} {w w' : World} (h : Evo e w e' w') {xs : List AV} {us : List Value} (hx : LRel e w xs us) : LRel e' w' xs us := hx.evo0 h.toEvo0

/-- What a block of the call's own holds. -/
def ObjRel (e : Emb) (w : World) (c : Nat) : AObj → Prop
  | .cells l => ∃ (cs : Array Value) (t : TypeId), w.heap[c]? = some (Obj.cells cs t (0, 0)) ∧ ∀ (i : Nat) (x : AV), l[i]? = some x → ∃ u, cs[i]? = some u ∧ VRel e w x u
  | .map es clock => ∃ (ens : Array MapEntry), w.heap[c]? = some (Obj.map ens clock) ∧ ens.size = es.length ∧
      ∀ (i : Nat) (k v : AV) (n : Nat) (ent : MapEntry), es[i]? = some (k, v, n) → ens[i]? = some ent → VRel e w k ent.key ∧ VRel e w v ent.val ∧ ent.born = n
  | .iterS s p => w.heap[c]? = some (Obj.stringIter s p)
  | .chan cap buf closed s r => ∃ us : Array Value, w.heap[c]? = some (Obj.chan cap us closed s r false) ∧ LRel e w buf us.toList

structure HRel (e : Emb) (H : AHeap) (w : World) : Prop where
  next : e.next = H.next
  fresh : ∀ b, H.next ≤ b → e.map b = none
  inj : ∀ b b' c, e.map b = some c → e.map b' = some c → e.live b = true → e.live b' = true → b = b'
  dom : ∀ b c, e.map b = some c → e.live b = true → ∃ o, H.get b = some o
  obj : ∀ b o c, H.get b = some o → e.map b = some c → e.live b = true ∧ ObjRel e w c o
  get : ∀ b o, H.get b = some o → b < H.next
  lt : ∀ b c, e.map b = some c → c < w.heap.size

theorem ObjRel.lt {e : Emb} {w : World} {c : Nat} {o : AObj} (h : ObjRel e w c o) : c < w.heap.size := by
  have key : ∀ {x : Obj}, w.heap[c]? = some x → c < w.heap.size := fun hx => (Array.getElem?_eq_some_iff.1 hx).1
  cases o with
  | cells l => obtain ⟨cs, t, h1, _⟩ := h; exact key h1
  | map es clock => obtain ⟨ens, h1, _⟩ := h; exact key h1
  | iterS s p => exact key h
  | chan cap buf closed s r => obtain ⟨us, h1, _⟩ := h; exact key h1

theorem HRel.blt {e : Emb} {H : AHeap} {w : World} (h : HRel e H w) {b : Nat} {o : AObj} (hb : H.get b = some o) : b < H.next := h.get b o hb

theorem HRel.mlt {e : Emb} {H : AHeap} {w : World} (h : HRel e H w) {b c : Nat} (hb : e.map b = some c) : b < H.next := by
  rcases Nat.lt_or_ge b H.next with h2 | h2
  · exact h2
  · rw [h.fresh b h2] at hb; cases hb

/-- What a block holds goes on holding, where the block itself stays. -/
theorem ObjRel.evo0 {e e' : Emb} {w w' : World} (h : Evo0 e w e' w') {c : Nat} {o : AObj} (ho : ObjRel e w c o) (hc : w'.heap[c]? = w.heap[c]?) : ObjRel e' w' c o := by
  cases o with
  | cells l => obtain ⟨cs, t, h1, h2⟩ := ho; exact ⟨cs, t, hc.trans h1, fun i x hx => let ⟨u, h3, h4⟩ := h2 i x hx; ⟨u, h3, h4.evo0 h⟩⟩
  | map es clock => obtain ⟨ens, h1, h2, h3⟩ := ho; exact ⟨ens, hc.trans h1, h2, fun i k v n ent h4 h5 => let ⟨a, b, c⟩ := h3 i k v n ent h4 h5; ⟨a.evo0 h, b.evo0 h, c⟩⟩
  | iterS s p => exact hc.trans ho
  | chan cap buf closed s r => obtain ⟨us, h1, h2⟩ := ho; exact ⟨us, hc.trans h1, h2.evo0 h⟩

theorem ObjRel.evo {e e' : Emb} {w w' : World} (h : Evo e w e' w') {c : Nat} {o : AObj} (ho : ObjRel e w c o) (hc : w'.heap[c]? = w.heap[c]?) : ObjRel e' w' c o := ho.evo0 h.toEvo0 hc

/-- The tape is drawn from. -/
theorem Evo.drew (e : Emb) (w : World) : Evo e w e w.drew :=
  ⟨⟨rfl, rfl, rfl, Nat.le_refl _, fun _ _ _ => rfl, Nat.le_refl _, fun _ _ h => h, fun _ h => .inr h, fun _ cs t fr h => ⟨cs, t, fr, h, rfl⟩⟩, fun _ _ h => h⟩

theorem HRel.of_same {e : Emb} {H : AHeap} {w w' : World} (h : HRel e H w) (hv : Evo e w e w') (hh : ∀ c, e.hits c → w'.heap[c]? = w.heap[c]?) : HRel e H w' :=
  ⟨h.next, h.fresh, h.inj, h.dom, fun b o c hb hc => let ⟨h1, h2⟩ := h.obj b o c hb hc; ⟨h1, h2.evo hv (hh c ⟨b, hc, h1⟩)⟩, h.get, fun b c hc => Nat.lt_of_lt_of_le (h.lt b c hc) hv.size⟩

theorem HRel.drew {e : Emb} {H : AHeap} {w : World} (h : HRel e H w) : HRel e H w.drew := h.of_same (Evo.drew e w) fun _ _ => rfl

/-! ### A new block -/
theorem push_map (e : Emb) (c x : Nat) : (e.push c).map x = if x = e.next then some c else e.map x := rfl
theorem push_live (e : Emb) (c x : Nat) : (e.push c).live x = if x = e.next then true else e.live x := rfl
theorem new_get (H : AHeap) (o : AObj) (x : Nat) : (H.new o).get x = if x = H.next then some o else H.get x := rfl
theorem add_map (e : Emb) (b c x : Nat) : (e.add b c).map x = if x = b then some c else e.map x := rfl
theorem add_live (e : Emb) (b c x : Nat) : (e.add b c).live x = if x = b then true else e.live x := rfl

theorem heap_alloc_new (w : World) (o : Obj) : (w.alloc o).heap[w.heap.size]? = some o := by
  show (w.heap.push o)[w.heap.size]? = _
  simp
theorem heap_alloc_old (w : World) (o : Obj) {c : Nat} (h : c < w.heap.size) : (w.alloc o).heap[c]? = w.heap[c]? := by
  show (w.heap.push o)[c]? = _
  rw [Array.getElem?_push, if_neg (by omega)]

/-- A block, laid out before, comes to lie behind all others. -/
theorem Evo0.add {e : Emb} {w : World} {b : Nat} (hb : e.map b = none) (o : Obj) : Evo0 e w (e.add b w.heap.size) (w.alloc o) where
  os := rfl
  output := rfl
  tape := rfl
  size := by simp
  frame := fun c hc _ => heap_alloc_old w o hc
  next := Nat.le_refl _
  old := fun x c hx => by
    rw [add_map, if_neg]
    · exact hx
    · intro h; rw [h, hb] at hx; cases hx
  hits := fun c ⟨x, hx, hl⟩ => by
    rw [add_map] at hx
    rw [add_live] at hl
    by_cases h : x = b
    · rw [if_pos h] at hx; injection hx with hx; exact .inl (by omega)
    · rw [if_neg h] at hx hl; exact .inr ⟨x, hx, hl⟩
  sizes := fun c cs t fr hc => ⟨cs, t, fr, by rw [heap_alloc_old w o (Array.getElem?_eq_some_iff.1 hc).1, hc], rfl⟩

theorem HRel.add {e : Emb} {H : AHeap} {w : World} (h : HRel e H w) {b : Nat} {ao : AObj} (hg : H.get b = some ao) (hb : e.map b = none) (o : Obj) (ho : ObjRel (e.add b w.heap.size) (w.alloc o) w.heap.size ao) :
    HRel (e.add b w.heap.size) H (w.alloc o) := by
  have hv := Evo0.add hb (w := w) o
  refine ⟨h.next, fun x hx => ?_, fun x y c hx hy lx ly => ?_, fun x c hx lx => ?_, fun x q c hq hx => ?_, h.get, fun x c hx => ?_⟩
  · rw [add_map, if_neg (by have := h.get b ao hg; omega)]
    exact h.fresh x hx
  · rw [add_map] at hx hy
    rw [add_live] at lx ly
    by_cases h1 : x = b <;> by_cases h2 : y = b
    · omega
    · rw [if_pos h1] at hx; rw [if_neg h2] at hy
      injection hx with hx
      have := h.lt y c hy
      omega
    · rw [if_pos h2] at hy; rw [if_neg h1] at hx
      injection hy with hy
      have := h.lt x c hx
      omega
    · rw [if_neg h1] at hx lx
      rw [if_neg h2] at hy ly
      exact h.inj x y c hx hy lx ly
  · rw [add_map] at hx
    rw [add_live] at lx
    by_cases h1 : x = b
    · subst h1; exact ⟨ao, hg⟩
    · rw [if_neg h1] at hx lx; exact h.dom x c hx lx
  · rw [add_map] at hx
    rw [add_live]
    by_cases h1 : x = b
    · subst h1
      rw [if_pos rfl] at hx
      rw [if_pos rfl]
      injection hx with hx
      rw [hg] at hq
      injection hq with hq
      subst hx hq
      exact ⟨rfl, ho⟩
    · rw [if_neg h1] at hx
      rw [if_neg h1]
      obtain ⟨h2, h3⟩ := h.obj x q c hq hx
      exact ⟨h2, h3.evo0 hv (heap_alloc_old w o (h.lt x c hx))⟩
  · rw [add_map] at hx
    rw [World.size_alloc]
    by_cases h1 : x = b
    · rw [if_pos h1] at hx; injection hx with hx; omega
    · rw [if_neg h1] at hx; have := h.lt x c hx; omega

/-- A block is laid out, and lies nowhere yet. -/
theorem HRel.laid {e : Emb} {H : AHeap} {w : World} (h : HRel e H w) (ao : AObj) : HRel ⟨e.map, e.live, H.next + 1⟩ (H.new ao) w ∧ Evo e w ⟨e.map, e.live, H.next + 1⟩ w := by
  have hv : Evo e w ⟨e.map, e.live, H.next + 1⟩ w :=
    ⟨⟨rfl, rfl, rfl, Nat.le_refl _, fun _ _ _ => rfl, by rw [h.next]; exact Nat.le_succ _, fun _ _ h => h, fun _ h => .inr h, fun _ cs t fr h => ⟨cs, t, fr, h, rfl⟩⟩, fun _ _ h => h⟩
  refine ⟨⟨rfl, fun b hb => h.fresh b (Nat.le_of_succ_le hb), h.inj, fun b c hb hl => ?_, fun b o c ho hb => ?_, fun b o ho => ?_, h.lt⟩, hv⟩
  · obtain ⟨o, ho⟩ := h.dom b c hb hl
    exact ⟨o, by rw [new_get, if_neg (by have := h.get b o ho; omega)]; exact ho⟩
  · rw [new_get, if_neg (by have := h.mlt hb; omega)] at ho
    obtain ⟨h1, h2⟩ := h.obj b o c ho hb
    exact ⟨h1, h2.evo hv rfl⟩
  · rw [new_get] at ho
    by_cases hb : b = H.next
    · rw [hb]; exact Nat.lt_succ_self _
    · rw [if_neg hb] at ho; exact Nat.lt_succ_of_lt (h.get b o ho)

theorem push_eq (e : Emb) (c : Nat) : e.push c = Emb.add ⟨e.map, e.live, e.next + 1⟩ e.next c := rfl

theorem Evo.alloc {e : Emb} {H : AHeap} {w : World} (h : HRel e H w) (o : Obj) : Evo e w (e.push w.heap.size) (w.alloc o) := by
  refine ⟨?_, fun b hb hm => by rw [push_map, if_neg (by omega)]; exact hm⟩
  rw [push_eq]
  have h1 : Evo0 e w ⟨e.map, e.live, e.next + 1⟩ w :=
    ⟨rfl, rfl, rfl, Nat.le_refl _, fun _ _ _ => rfl, Nat.le_succ _, fun _ _ h => h, fun _ h => .inr h, fun _ cs t fr h => ⟨cs, t, fr, h, rfl⟩⟩
  exact h1.trans (Evo0.add (e := ⟨e.map, e.live, e.next + 1⟩) (h.fresh _ (by rw [h.next]; exact Nat.le_refl _)) o)

theorem HRel.alloc {e : Emb} {H : AHeap} {w : World} (h : HRel e H w) (o : Obj) (ao : AObj) (ho : ObjRel (e.push w.heap.size) (w.alloc o) w.heap.size ao) :
    HRel (e.push w.heap.size) (H.new ao) (w.alloc o) := by
  obtain ⟨h1, h2⟩ := h.laid ao
  have hn := h.next
  rw [push_eq, hn] at ho ⊢
  exact h1.add (by rw [new_get, if_pos rfl]) (h.fresh _ (Nat.le_refl _)) o ho

/-- A new row of cells. -/
theorem HRel.allocCells {e : Emb} {H : AHeap} {w : World} (h : HRel e H w) (l : List AV) (cs : Array Value) (t : TypeId)
    (hl : ∀ (i : Nat) (x : AV), l[i]? = some x → ∃ u, cs[i]? = some u ∧ VRel e w x u) :
    HRel (e.push w.heap.size) (H.new (.cells l)) (w.alloc (.cells cs t)) :=
  h.alloc _ _ ⟨cs, t, heap_alloc_new w _, fun i x hx => let ⟨u, h1, h2⟩ := hl i x hx; ⟨u, h1, h2.evo (Evo.alloc h _)⟩⟩

theorem VRel.new_ptr {e : Emb} (c off : Nat) (w' : World) : VRel (e.push c) w' (.ptr e.next off) (.pointer (some ⟨c, off, none⟩)) :=
  .ptr _ _ _ (by rw [push_map, if_pos rfl])

/-! ### A cell is written -/
theorem Evo.setCell {e : Emb} {w : World} (b : Nat) {c : Nat} (hb : e.map b = some c) (hl : e.live b = true) (off : Nat) (v : Value) : Evo e w e (w.setCell ⟨c, off, none⟩ v) where
  un := fun _ _ h => h
  os := rfl
  output := rfl
  tape := rfl
  size := by simp
  frame := fun c' hc hn => by
    show (w.heap.modify c _)[c']? = _
    rw [Array.getElem?_modify, if_neg (fun (hh : c = c') => hn ⟨b, hh ▸ hb, hl⟩)]
  next := Nat.le_refl _
  old := fun _ _ h => h
  hits := fun _ h => .inr h
  sizes := fun c' cs t fr hc => by
    show ∃ (cs' : Array Value) (t' : TypeId) (fr' : Nat × Nat), (w.heap.modify c _)[c']? = some (Obj.cells cs' t' fr') ∧ cs'.size = cs.size
    rw [Array.getElem?_modify, hc]
    by_cases hh : c = c'
    · rw [if_pos hh]
      exact ⟨_, _, _, rfl, by simp⟩
    · rw [if_neg hh]
      exact ⟨cs, t, fr, rfl, rfl⟩

theorem set_get (H : AHeap) (b : Nat) (o : AObj) (x : Nat) : (H.set b o).get x = if x = b then some o else H.get x := rfl

/-- What a block holds is turned, in the world and in the heap alike. -/
theorem HRel.turn {e : Emb} {H : AHeap} {w w' : World} (h : HRel e H w) {b c : Nat} {o o' : AObj} (hb : H.get b = some o) (hc : e.map b = some c) (hv : Evo e w e w')
    (hother : ∀ c', c' ≠ c → w'.heap[c']? = w.heap[c']?) (ho : ObjRel e w' c o') : HRel e (H.set b o') w' := by
  refine ⟨h.next, h.fresh, h.inj, fun x q hx hl => ?_, fun x q c' hq hx => ?_, fun x q hq => ?_, fun x q hx => Nat.lt_of_lt_of_le (h.lt x q hx) hv.size⟩
  · rw [set_get]
    by_cases h1 : x = b
    · rw [if_pos h1]; exact ⟨_, rfl⟩
    · rw [if_neg h1]; exact h.dom x q hx hl
  · rw [set_get] at hq
    by_cases h1 : x = b
    · subst h1
      rw [if_pos rfl] at hq
      injection hq with hq
      have : c' = c := by rw [hc] at hx; injection hx with hx; exact hx.symm
      subst hq this
      exact ⟨(h.obj x o c' hb hc).1, ho⟩
    · rw [if_neg h1] at hq
      obtain ⟨h2, h3⟩ := h.obj x q c' hq hx
      refine ⟨h2, h3.evo hv (hother c' fun hcc => h1 ?_)⟩
      exact h.inj x b c (hcc ▸ hx) hc h2 (h.obj b o c hb hc).1
  · rw [set_get] at hq
    by_cases h1 : x = b
    · rw [h1]; exact h.get b o hb
    · rw [if_neg h1] at hq; exact h.get x q hq

theorem HRel.setCell {e : Emb} {H : AHeap} {w : World} (h : HRel e H w) {b : Nat} {l : List AV} (hb : H.get b = some (.cells l)) {c : Nat} (hc : e.map b = some c)
    (off : Nat) (x : AV) (u : Value) (hx : VRel e w x u) (hoff : off < l.length) : HRel e (H.set b (.cells (l.set off x))) (w.setCell ⟨c, off, none⟩ u) := by
  obtain ⟨hl, cs, t, h2, h3⟩ := h.obj b _ c hb hc
  have hv := Evo.setCell (w := w) b hc hl off u
  refine h.turn hb hc hv (fun c' hne => ?_) ⟨cs.setIfInBounds off u, t, ?_, fun i y hy => ?_⟩
  · show (w.heap.modify c _)[c']? = _
    rw [Array.getElem?_modify, if_neg (fun h => hne h.symm)]
  · show (w.heap.modify c _)[c]? = _
    rw [Array.getElem?_modify, if_pos rfl, h2]
    simp
  · rw [List.getElem?_set] at hy
    split at hy
    · rename_i hio
      subst hio
      obtain ⟨u0, h4, _⟩ := h3 off _ (List.getElem?_eq_getElem hoff)
      have hlt := (Array.getElem?_eq_some_iff.1 h4).1
      injection hy with hy
      subst hy
      exact ⟨u, by rw [Array.getElem?_setIfInBounds, if_pos rfl, if_pos hlt], hx.evo hv⟩
    · rename_i hio
      obtain ⟨u0, h4, h5⟩ := h3 i y hy
      exact ⟨u0, by rw [Array.getElem?_setIfInBounds, if_neg hio]; exact h4, h5.evo hv⟩

end Go.Proofs.Ytooaiddfokbffaa.E
