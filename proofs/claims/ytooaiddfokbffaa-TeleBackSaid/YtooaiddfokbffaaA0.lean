/- Texts of the proof, one behind the other. Conditions: none. -/
import Derived.WalkKit
import Derived.Laws.World
import Derived.Laws.MakeOwn
import Derived.Laws.Slices
import Derived.Laws.StructEq
/- Abstract values and an abstract heap, and how the model's values and world follow them. Conditions: none. -/
set_option linter.unusedVariables false
set_option linter.unusedSimpArgs false
namespace Go.Proofs.Ytooaiddfokbffaa.E
open Go

/-- Abstract values: plain ones, places in blocks of the call's own, slices of these, slices and places that are only read. -/
inductive AV where
  | v (x : Value)
  | ptr (b off : Nat)
  | slc (b off es len lo : Nat) (ex : Bool)
  | ro (len lo : Nat) (ex : Bool) (cells : List AV)
  | rop (cells : List AV) (off : Nat)
  | fn (f : Fn) (first captured : List AV)
  | agg (cells : List AV)
  | tup (vs : List AV)
  | ifc (t : TypeId) (x : AV)
  | mp (b : Nat)
  | ch (b : Nat)
  | yld (b : Nat)
  deriving Inhabited

def uv : AV := .v undef

def AV.acells : AV → List AV
  | .agg cs => cs
  | x => [x]

def valOne : Value → Bool
  | .agg _ | .tuple _ => false
  | _ => true

def AV.one : AV → Bool
  | .agg _ | .tup _ => false
  | .v x => valOne x
  | _ => true

def notAgg : Value → Bool
  | .agg _ => false
  | _ => true

/-- The record of a range over a function. -/
structure ALoop where
  st : LoopState
  pend : Option Code
  n : Nat
  tm : Nat → AV
  ps : Array Tmp
  ca : Code
  cb : Code

inductive AObj where
  | cells (l : List AV)
  | map (es : List (AV × AV × Nat)) (clock : Nat)
  | iterS (s : ByteArray) (pos : Nat)
  | chan (cap : Nat) (buf : List AV) (closed : Bool) (sent received : Nat)
  | loop (L : ALoop)
  | iterM (m : Nat) (since : Nat) (seen : List Nat) (last : Nat)
  | iterN

structure AHeap where
  get : Nat → Option AObj
  next : Nat

def AHeap.empty : AHeap := ⟨fun _ => none, 0⟩
def AHeap.new (H : AHeap) (o : AObj) : AHeap := ⟨fun b => if b = H.next then some o else H.get b, H.next + 1⟩
def AHeap.set (H : AHeap) (b : Nat) (o : AObj) : AHeap := ⟨fun x => if x = b then some o else H.get x, H.next⟩
def AHeap.kill (H : AHeap) (b : Nat) : AHeap := ⟨fun x => if x = b then none else H.get x, H.next⟩
/-- What was there at a time, as it is now. -/
def AHeap.cut (H : AHeap) (n : Nat) : AHeap := ⟨fun x => if x < n then H.get x else none, n⟩

/-- Where the blocks lie, and which of them are still the call's own. -/
structure Emb where
  map : Nat → Option Nat
  live : Nat → Bool
  next : Nat

def Emb.empty : Emb := ⟨fun _ => none, fun _ => false, 0⟩
def Emb.add (e : Emb) (b c : Nat) : Emb := ⟨fun x => if x = b then some c else e.map x, fun x => if x = b then true else e.live x, e.next⟩
def Emb.push (e : Emb) (c : Nat) : Emb := ⟨fun b => if b = e.next then some c else e.map b, fun b => if b = e.next then true else e.live b, e.next + 1⟩
def Emb.kill (e : Emb) (b : Nat) : Emb := ⟨e.map, fun x => if x = b then false else e.live x, e.next⟩
def Emb.hits (e : Emb) (c : Nat) : Prop := ∃ b, e.map b = some c ∧ e.live b = true

inductive VRel (e : Emb) (w : World) : AV → Value → Prop
  | v (x : Value) (h : notAgg x = true) : VRel e w (.v x) x
  | ptr (b off c : Nat) (h : e.map b = some c) : VRel e w (.ptr b off) (.pointer (some ⟨c, off, none⟩))
  | slc (b off es len lo : Nat) (ex : Bool) (c k : Nat) (h : e.map b = some c) (hl : len ≤ k) (hlo : lo ≤ k) (hc : ex = true → k = lo)
      (cs : Array Value) (t : TypeId) (fr : Nat × Nat) (hw : w.heap[c]? = some (Obj.cells cs t fr)) (hs : off + k * es ≤ cs.size) :
      VRel e w (.slc b off es len lo ex) (.slice (some ⟨c, off, none⟩) len k)
  | ro (len lo : Nat) (ex : Bool) (cells : List AV) (a : Addr) (k : Nat) (us : List Value) (hl : len ≤ k) (hlo : lo ≤ k) (hc : ex = true → k = lo)
      (hn : us.length = cells.length) (hs : ∀ (i : Nat) (u : Value), us[i]? = some u → w.cell? (a.add i) = some u ∧ ¬ e.hits a.block)
      (hr : ∀ (i : Nat) (x : AV) (u : Value), cells[i]? = some x → us[i]? = some u → VRel e w x u) : VRel e w (.ro len lo ex cells) (.slice (some a) len k)
  | rop (cells : List AV) (off : Nat) (a : Addr) (us : List Value)
      (hn : us.length = cells.length) (hs : ∀ (i : Nat) (u : Value), us[i]? = some u → w.cell? (a.add i) = some u ∧ ¬ e.hits a.block)
      (hr : ∀ (i : Nat) (x : AV) (u : Value), cells[i]? = some x → us[i]? = some u → VRel e w x u) : VRel e w (.rop cells off) (.pointer (some (a.add off)))
  | fn (f : Fn) (first captured : List AV) (fs cs : Array Value) (hf : fs.size = first.length) (hc : cs.size = captured.length)
      (h1 : ∀ (i : Nat) (x : AV) (u : Value), first[i]? = some x → fs[i]? = some u → VRel e w x u)
      (h2 : ∀ (i : Nat) (x : AV) (u : Value), captured[i]? = some x → cs[i]? = some u → VRel e w x u) : VRel e w (.fn f first captured) (.func f fs cs)
  | agg (cells : List AV) (cs : Array Value) (hn : cs.size = cells.length)
      (h : ∀ (i : Nat) (x : AV) (u : Value), cells[i]? = some x → cs[i]? = some u → VRel e w x u) : VRel e w (.agg cells) (.agg cs)
  | tup (vs : List AV) (cs : Array Value) (hn : cs.size = vs.length)
      (h : ∀ (i : Nat) (x : AV) (u : Value), vs[i]? = some x → cs[i]? = some u → VRel e w x u) : VRel e w (.tup vs) (.tuple cs)
  | ifc (t : TypeId) (x : AV) (u : Value) (h : VRel e w x u) : VRel e w (.ifc t x) (.iface t u)
  | mp (b r : Nat) (h : e.map b = some r) : VRel e w (.mp b) (.map (some r))
  | ch (b r : Nat) (h : e.map b = some r) : VRel e w (.ch b) (.chan (some r))
  | yld (b r : Nat) (h : e.map b = some r) : VRel e w (.yld b) (.func (.yield r) #[] #[])

/-- Two lists, place by place. -/
def LRel (e : Emb) (w : World) (xs : List AV) (us : List Value) : Prop :=
  us.length = xs.length ∧ ∀ (i : Nat) (x : AV) (u : Value), xs[i]? = some x → us[i]? = some u → VRel e w x u

/-- The world has gone on: what no block of the call's own bears is as it was. -/
structure Evo0 (e : Emb) (w : World) (e' : Emb) (w' : World) : Prop where
  os : w'.os = w.os
  output : w'.output = w.output
  tape : w'.tape = w.tape
  size : w.heap.size ≤ w'.heap.size
  frame : ∀ c, c < w.heap.size → ¬ e.hits c → w'.heap[c]? = w.heap[c]?
  next : e.next ≤ e'.next
  old : ∀ b c, e.map b = some c → e'.map b = some c
  hits : ∀ c, e'.hits c → w.heap.size ≤ c ∨ e.hits c
  sizes : ∀ (c : Nat) (cs : Array Value) (t : TypeId) (fr : Nat × Nat), w.heap[c]? = some (Obj.cells cs t fr) → ∃ (cs' : Array Value) (t' : TypeId) (fr' : Nat × Nat), w'.heap[c]? = some (Obj.cells cs' t' fr') ∧ cs'.size = cs.size

theorem Evo0.refl (e : Emb) (w : World)   : Evo0 e w e w :=
  ⟨rfl, rfl, rfl, Nat.le_refl _, fun _ _ _ => rfl, Nat.le_refl _, fun _ _ h => h, fun _ h => .inr h, fun _ cs t fr h => ⟨cs, t, fr, h, rfl⟩⟩

theorem Evo0.trans {e e1 e2 : Emb} {w w1 w2 : World} (h : Evo0 e w e1 w1) (k : Evo0 e1 w1 e2 w2) : Evo0 e w e2 w2 where
  os := k.os.trans h.os
  output := k.output.trans h.output
  tape := k.tape.trans h.tape
  size := Nat.le_trans h.size k.size
  frame := fun c hc hn => by
    rw [k.frame c (Nat.lt_of_lt_of_le hc h.size) (fun hh => ?_), h.frame c hc hn]
    rcases h.hits c hh with h1 | h1
    · omega
    · exact hn h1
  next := Nat.le_trans h.next k.next
  old := fun b c hb => k.old b c (h.old b c hb)
  hits := fun c hc => by
    rcases k.hits c hc with h1 | h1
    · exact .inl (Nat.le_trans h.size h1)
    · exact h.hits c h1
  sizes := fun c cs t fr hc => by
    obtain ⟨cs1, t1, fr1, h1, h2⟩ := h.sizes c cs t fr hc
    obtain ⟨cs2, t2, fr2, h3, h4⟩ := k.sizes c cs1 t1 fr1 h1
    exact ⟨cs2, t2, fr2, h3, h4.trans h2⟩

/-- The same, and what was laid out and lay nowhere lies nowhere yet. -/
structure Evo (e : Emb) (w : World) (e' : Emb) (w' : World) : Prop extends Evo0 e w e' w' where
  un : ∀ b, b < e.next → e.map b = none → e'.map b = none

theorem Evo.refl (e : Emb) (w : World) : Evo e w e w := ⟨Evo0.refl e w, fun _ _ h => h⟩
theorem Evo.trans {e e1 e2 : Emb} {w w1 w2 : World} (h : Evo e w e1 w1) (k : Evo e1 w1 e2 w2) : Evo e w e2 w2 :=
  ⟨h.toEvo0.trans k.toEvo0, fun b hb hm => k.un b (Nat.lt_of_lt_of_le hb h.next) (h.un b hb hm)⟩

theorem addr_add_block (a : Addr) (i : Nat) : (a.add i).block = a.block := by unfold Addr.add; split <;> rfl
theorem addr_add_add (a : Addr) (i j : Nat) : (a.add i).add j = a.add (i + j) := by
  unfold Addr.add
  by_cases h1 : i = 0 <;> by_cases h2 : j = 0 <;> simp [h1, h2, Nat.add_assoc]
theorem addr_add_plain (c o j : Nat) : (⟨c, o, none⟩ : Addr).add j = ⟨c, o + j, none⟩ := by unfold Addr.add; split <;> simp_all

theorem Evo0.cell {e e' : Emb} {w w' : World} (h : Evo0 e w e' w') {a : Addr} {u : Value} (hc : w.cell? a = some u) (hn : ¬ e.hits a.block) : w'.cell? a = some u := by
  have hlt := World.block_lt_of_cell? w a hc
  unfold World.cell? at hc ⊢
  rw [h.frame a.block hlt hn]
  exact hc

theorem Evo0.nhits {e e' : Emb} {w w' : World} (h : Evo0 e w e' w') {c : Nat} (hc : c < w.heap.size) (hn : ¬ e.hits c) : ¬ e'.hits c := by
  intro hh
  rcases h.hits c hh with h1 | h1
  · omega
  · exact hn h1

theorem VRel.evo0 {e e' : Emb} {w w' : World} (h : Evo0 e w e' w') {x : AV} {u : Value} (hx : VRel e w x u) : VRel e' w' x u := by
  induction hx with
  | v x h => exact .v x h
  | ptr b off c hc => exact .ptr b off c (h.old b c hc)
  | slc b off es len lo ex c k hm hl hlo hcap cs t fr hw hs =>
    obtain ⟨cs', t', fr', h5, h6⟩ := h.sizes c cs t fr hw
    exact .slc b off es len lo ex c k (h.old b c hm) hl hlo hcap cs' t' fr' h5 (by omega)
  | ro len lo ex cells a k us hl hlo hcap hn hs hr ih =>
    refine .ro len lo ex cells a k us hl hlo hcap hn (fun i u hu => ?_) ih
    obtain ⟨h1, h2⟩ := hs i u hu
    refine ⟨h.cell h1 (by rw [addr_add_block]; exact h2), ?_⟩
    exact h.nhits (by have := World.block_lt_of_cell? w _ h1; rwa [addr_add_block] at this) h2
  | rop cells off a us hn hs hr ih =>
    refine .rop cells off a us hn (fun i u hu => ?_) ih
    obtain ⟨h1, h2⟩ := hs i u hu
    refine ⟨h.cell h1 (by rw [addr_add_block]; exact h2), ?_⟩
    exact h.nhits (by have := World.block_lt_of_cell? w _ h1; rwa [addr_add_block] at this) h2
  | fn f first captured fs cs hf hc h1 h2 ih1 ih2 => exact .fn f first captured fs cs hf hc ih1 ih2
  | agg cells cs hn h ih => exact .agg cells cs hn ih
  | tup vs cs hn h ih => exact .tup vs cs hn ih
  | ifc t x u h ih => exact .ifc t x u ih
  | mp b r hm => exact .mp b r (h.old b r hm)
  | ch b r hm => exact .ch b r (h.old b r hm)
  | yld b r hm => exact .yld b r (h.old b r hm)

theorem VRel.evo {e e' : Emb} {w w' : World} (h : Evo e w e' w') {x : AV} {u : Value} (hx : VRel e w x u) : VRel e' w' x u := hx.evo0 h.toEvo0

theorem LRel.evo0 {e e' : Emb} {w w' : World} (h : Evo0 e w e' w') {xs : List AV} {us : List Value} (hx : LRel e w xs us) : LRel e' w' xs us :=
  ⟨hx.1, fun i x u h1 h2 => (hx.2 i x u h1 h2).evo0 h⟩
theorem LRel.evo {e e' : Emb} {w w' : World} (h : Evo e w e' w') {xs : List AV} {us : List Value} (hx : LRel e w xs us) : LRel e' w' xs us := hx.evo0 h.toEvo0

/-- What a block of the call's own holds. -/
def ObjRel (e : Emb) (w : World) (c : Nat) : AObj → Prop
  | .cells l => ∃ (cs : Array Value) (t : TypeId), w.heap[c]? = some (Obj.cells cs t (0, 0)) ∧ ∀ (i : Nat) (x : AV), l[i]? = some x → ∃ u, cs[i]? = some u ∧ VRel e w x u
  | .map es clock => ∃ (ens : Array MapEntry), w.heap[c]? = some (Obj.map ens clock) ∧ ens.size = es.length ∧
      ∀ (i : Nat) (k v : AV) (n : Nat) (ent : MapEntry), es[i]? = some (k, v, n) → ens[i]? = some ent → VRel e w k ent.key ∧ VRel e w v ent.val ∧ ent.born = n
  | .iterS s p => w.heap[c]? = some (Obj.stringIter s p)
  | .chan cap buf closed s r => ∃ us : Array Value, w.heap[c]? = some (Obj.chan cap us closed s r false) ∧ LRel e w buf us.toList
  | .loop L => ∃ r : Loop, w.heap[c]? = some (Obj.loop r) ∧ r.state = L.st ∧ r.pending = L.pend ∧ L.n ≤ r.tmps.size ∧ (∀ n, VRel e w (L.tm n) (r.tmps.getD n undef)) ∧ r.params = L.ps ∧ r.assign = L.ca ∧ r.body = L.cb
  | .iterM m since seen last => ∃ mc, e.map m = some mc ∧ w.heap[c]? = some (Obj.mapIter (some mc) since seen.toArray last)
  | .iterN => w.heap[c]? = some (Obj.mapIter none 0 #[] 0)

structure HRel (e : Emb) (H : AHeap) (w : World) : Prop where
  next : e.next = H.next
  fresh : ∀ b, H.next ≤ b → e.map b = none
  inj : ∀ b b' c, e.map b = some c → e.map b' = some c → e.live b = true → e.live b' = true → b = b'
  dom : ∀ b c, e.map b = some c → e.live b = true → ∃ o, H.get b = some o
  obj : ∀ b o c, H.get b = some o → e.map b = some c → e.live b = true ∧ ObjRel e w c o
  get : ∀ b o, H.get b = some o → b < H.next
  lt : ∀ b c, e.map b = some c → c < w.heap.size

theorem ObjRel.lt {e : Emb} {w : World} {c : Nat} {o : AObj} (h : ObjRel e w c o) : c < w.heap.size := by
  have key : ∀ {x : Obj}, w.heap[c]? = some x → c < w.heap.size := fun hx => (Array.getElem?_eq_some_iff.1 hx).1
  cases o with
  | cells l => obtain ⟨cs, t, h1, _⟩ := h; exact key h1
  | map es clock => obtain ⟨ens, h1, _⟩ := h; exact key h1
  | iterS s p => exact key h
  | chan cap buf closed s r => obtain ⟨us, h1, _⟩ := h; exact key h1
  | loop L => obtain ⟨r, h1, _⟩ := h; exact key h1
  | iterM m since seen last => obtain ⟨mc, _, h1⟩ := h; exact key h1
  | iterN => exact key h

theorem HRel.blt {e : Emb} {H : AHeap} {w : World} (h : HRel e H w) {b : Nat} {o : AObj} (hb : H.get b = some o) : b < H.next := h.get b o hb

theorem HRel.mlt {e : Emb} {H : AHeap} {w : World} (h : HRel e H w) {b c : Nat} (hb : e.map b = some c) : b < H.next := by
  rcases Nat.lt_or_ge b H.next with h2 | h2
  · exact h2
  · rw [h.fresh b h2] at hb; cases hb

/-- What a block holds goes on holding, where the block itself stays. -/
theorem ObjRel.evo0 {e e' : Emb} {w w' : World} (h : Evo0 e w e' w') {c : Nat} {o : AObj} (ho : ObjRel e w c o) (hc : w'.heap[c]? = w.heap[c]?) : ObjRel e' w' c o := by
  cases o with
  | cells l => obtain ⟨cs, t, h1, h2⟩ := ho; exact ⟨cs, t, hc.trans h1, fun i x hx => let ⟨u, h3, h4⟩ := h2 i x hx; ⟨u, h3, h4.evo0 h⟩⟩
  | map es clock => obtain ⟨ens, h1, h2, h3⟩ := ho; exact ⟨ens, hc.trans h1, h2, fun i k v n ent h4 h5 => let ⟨a, b, c⟩ := h3 i k v n ent h4 h5; ⟨a.evo0 h, b.evo0 h, c⟩⟩
  | iterS s p => exact hc.trans ho
  | chan cap buf closed s r => obtain ⟨us, h1, h2⟩ := ho; exact ⟨us, hc.trans h1, h2.evo0 h⟩
  | loop L => obtain ⟨r, h1, h2, h3, h4, h5, h6⟩ := ho; exact ⟨r, hc.trans h1, h2, h3, h4, fun n => (h5 n).evo0 h, h6⟩
  | iterM m since seen last => obtain ⟨mc, h1, h2⟩ := ho; exact ⟨mc, h.old _ _ h1, hc.trans h2⟩
  | iterN => exact hc.trans ho

theorem ObjRel.evo {e e' : Emb} {w w' : World} (h : Evo e w e' w') {c : Nat} {o : AObj} (ho : ObjRel e w c o) (hc : w'.heap[c]? = w.heap[c]?) : ObjRel e' w' c o := ho.evo0 h.toEvo0 hc

/-- The tape is drawn from. -/
theorem Evo.drew (e : Emb) (w : World) : Evo e w e w.drew :=
  ⟨⟨rfl, rfl, rfl, Nat.le_refl _, fun _ _ _ => rfl, Nat.le_refl _, fun _ _ h => h, fun _ h => .inr h, fun _ cs t fr h => ⟨cs, t, fr, h, rfl⟩⟩, fun _ _ h => h⟩

theorem HRel.of_same {e : Emb} {H : AHeap} {w w' : World} (h : HRel e H w) (hv : Evo e w e w') (hh : ∀ c, e.hits c → w'.heap[c]? = w.heap[c]?) : HRel e H w' :=
  ⟨h.next, h.fresh, h.inj, h.dom, fun b o c hb hc => let ⟨h1, h2⟩ := h.obj b o c hb hc; ⟨h1, h2.evo hv (hh c ⟨b, hc, h1⟩)⟩, h.get, fun b c hc => Nat.lt_of_lt_of_le (h.lt b c hc) hv.size⟩

theorem HRel.drew {e : Emb} {H : AHeap} {w : World} (h : HRel e H w) : HRel e H w.drew := h.of_same (Evo.drew e w) fun _ _ => rfl

/-! ### A new block -/
theorem push_map (e : Emb) (c x : Nat) : (e.push c).map x = if x = e.next then some c else e.map x := rfl
theorem new_get (H : AHeap) (o : AObj) (x : Nat) : (H.new o).get x = if x = H.next then some o else H.get x := rfl
theorem add_map (e : Emb) (b c x : Nat) : (e.add b c).map x = if x = b then some c else e.map x := rfl
theorem add_live (e : Emb) (b c x : Nat) : (e.add b c).live x = if x = b then true else e.live x := rfl

theorem heap_alloc_new (w : World) (o : Obj) : (w.alloc o).heap[w.heap.size]? = some o := by
  show (w.heap.push o)[w.heap.size]? = _
  simp
theorem heap_alloc_old (w : World) (o : Obj) {c : Nat} (h : c < w.heap.size) : (w.alloc o).heap[c]? = w.heap[c]? := by
  show (w.heap.push o)[c]? = _
  rw [Array.getElem?_push, if_neg (by omega)]

/-- A block, laid out before, comes to lie behind all others. -/
theorem Evo0.add {e : Emb} {w : World} {b : Nat} (hb : e.map b = none) (o : Obj) : Evo0 e w (e.add b w.heap.size) (w.alloc o) where
  os := rfl
  output := rfl
  tape := rfl
  size := by simp
  frame := fun c hc _ => heap_alloc_old w o hc
  next := Nat.le_refl _
  old := fun x c hx => by
    rw [add_map, if_neg]
    · exact hx
    · intro h; rw [h, hb] at hx; cases hx
  hits := fun c ⟨x, hx, hl⟩ => by
    rw [add_map] at hx
    rw [add_live] at hl
    by_cases h : x = b
    · rw [if_pos h] at hx; injection hx with hx; exact .inl (by omega)
    · rw [if_neg h] at hx hl; exact .inr ⟨x, hx, hl⟩
  sizes := fun c cs t fr hc => ⟨cs, t, fr, by rw [heap_alloc_old w o (Array.getElem?_eq_some_iff.1 hc).1, hc], rfl⟩

theorem HRel.add {e : Emb} {H : AHeap} {w : World} (h : HRel e H w) {b : Nat} {ao : AObj} (hg : H.get b = some ao) (hb : e.map b = none) (o : Obj) (ho : ObjRel (e.add b w.heap.size) (w.alloc o) w.heap.size ao) :
    HRel (e.add b w.heap.size) H (w.alloc o) := by
  have hv := Evo0.add hb (w := w) o
  refine ⟨h.next, fun x hx => ?_, fun x y c hx hy lx ly => ?_, fun x c hx lx => ?_, fun x q c hq hx => ?_, h.get, fun x c hx => ?_⟩
  · rw [add_map, if_neg (by have := h.get b ao hg; omega)]
    exact h.fresh x hx
  · rw [add_map] at hx hy
    rw [add_live] at lx ly
    by_cases h1 : x = b <;> by_cases h2 : y = b
    · omega
    · rw [if_pos h1] at hx; rw [if_neg h2] at hy
      injection hx with hx
      have := h.lt y c hy
      omega
    · rw [if_pos h2] at hy; rw [if_neg h1] at hx
      injection hy with hy
      have := h.lt x c hx
      omega
    · rw [if_neg h1] at hx lx
      rw [if_neg h2] at hy ly
      exact h.inj x y c hx hy lx ly
  · rw [add_map] at hx
    rw [add_live] at lx
    by_cases h1 : x = b
    · subst h1; exact ⟨ao, hg⟩
    · rw [if_neg h1] at hx lx; exact h.dom x c hx lx
  · rw [add_map] at hx
    rw [add_live]
    by_cases h1 : x = b
    · subst h1
      rw [if_pos rfl] at hx
      rw [if_pos rfl]
      injection hx with hx
      rw [hg] at hq
      injection hq with hq
      subst hx hq
      exact ⟨rfl, ho⟩
    · rw [if_neg h1] at hx
      rw [if_neg h1]
      obtain ⟨h2, h3⟩ := h.obj x q c hq hx
      exact ⟨h2, h3.evo0 hv (heap_alloc_old w o (h.lt x c hx))⟩
  · rw [add_map] at hx
    rw [World.size_alloc]
    by_cases h1 : x = b
    · rw [if_pos h1] at hx; injection hx with hx; omega
    · rw [if_neg h1] at hx; have := h.lt x c hx; omega

/-- A block is laid out, and lies nowhere yet. -/
theorem HRel.laid {e : Emb} {H : AHeap} {w : World} (h : HRel e H w) (ao : AObj) : HRel ⟨e.map, e.live, H.next + 1⟩ (H.new ao) w ∧ Evo e w ⟨e.map, e.live, H.next + 1⟩ w := by
  have hv : Evo e w ⟨e.map, e.live, H.next + 1⟩ w :=
    ⟨⟨rfl, rfl, rfl, Nat.le_refl _, fun _ _ _ => rfl, by rw [h.next]; exact Nat.le_succ _, fun _ _ h => h, fun _ h => .inr h, fun _ cs t fr h => ⟨cs, t, fr, h, rfl⟩⟩, fun _ _ h => h⟩
  refine ⟨⟨rfl, fun b hb => h.fresh b (Nat.le_of_succ_le hb), h.inj, fun b c hb hl => ?_, fun b o c ho hb => ?_, fun b o ho => ?_, h.lt⟩, hv⟩
  · obtain ⟨o, ho⟩ := h.dom b c hb hl
    exact ⟨o, by rw [new_get, if_neg (by have := h.get b o ho; omega)]; exact ho⟩
  · rw [new_get, if_neg (by have := h.mlt hb; omega)] at ho
    obtain ⟨h1, h2⟩ := h.obj b o c ho hb
    exact ⟨h1, h2.evo hv rfl⟩
  · rw [new_get] at ho
    by_cases hb : b = H.next
    · rw [hb]; exact Nat.lt_succ_self _
    · rw [if_neg hb] at ho; exact Nat.lt_succ_of_lt (h.get b o ho)

theorem push_eq (e : Emb) (c : Nat) : e.push c = Emb.add ⟨e.map, e.live, e.next + 1⟩ e.next c := rfl

theorem Evo.alloc {e : Emb} {H : AHeap} {w : World} (h : HRel e H w) (o : Obj) : Evo e w (e.push w.heap.size) (w.alloc o) := by
  refine ⟨?_, fun b hb hm => by rw [push_map, if_neg (by omega)]; exact hm⟩
  rw [push_eq]
  have h1 : Evo0 e w ⟨e.map, e.live, e.next + 1⟩ w :=
    ⟨rfl, rfl, rfl, Nat.le_refl _, fun _ _ _ => rfl, Nat.le_succ _, fun _ _ h => h, fun _ h => .inr h, fun _ cs t fr h => ⟨cs, t, fr, h, rfl⟩⟩
  exact h1.trans (Evo0.add (e := ⟨e.map, e.live, e.next + 1⟩) (h.fresh _ (by rw [h.next]; exact Nat.le_refl _)) o)

theorem HRel.alloc {e : Emb} {H : AHeap} {w : World} (h : HRel e H w) (o : Obj) (ao : AObj) (ho : ObjRel (e.push w.heap.size) (w.alloc o) w.heap.size ao) :
    HRel (e.push w.heap.size) (H.new ao) (w.alloc o) := by
  obtain ⟨h1, h2⟩ := h.laid ao
  have hn := h.next
  rw [push_eq, hn] at ho ⊢
  exact h1.add (by rw [new_get, if_pos rfl]) (h.fresh _ (Nat.le_refl _)) o ho

/-- A new row of cells. -/
theorem HRel.allocCells {e : Emb} {H : AHeap} {w : World} (h : HRel e H w) (l : List AV) (cs : Array Value) (t : TypeId)
    (hl : ∀ (i : Nat) (x : AV), l[i]? = some x → ∃ u, cs[i]? = some u ∧ VRel e w x u) :
    HRel (e.push w.heap.size) (H.new (.cells l)) (w.alloc (.cells cs t)) :=
  h.alloc _ _ ⟨cs, t, heap_alloc_new w _, fun i x hx => let ⟨u, h1, h2⟩ := hl i x hx; ⟨u, h1, h2.evo (Evo.alloc h _)⟩⟩

theorem VRel.new_ptr {e : Emb} (c off : Nat) (w' : World) : VRel (e.push c) w' (.ptr e.next off) (.pointer (some ⟨c, off, none⟩)) :=
  .ptr _ _ _ (by rw [push_map, if_pos rfl])

/-! ### A cell is written -/
theorem Evo.setCell {e : Emb} {w : World} (b : Nat) {c : Nat} (hb : e.map b = some c) (hl : e.live b = true) (off : Nat) (v : Value) : Evo e w e (w.setCell ⟨c, off, none⟩ v) where
  un := fun _ _ h => h
  os := rfl
  output := rfl
  tape := rfl
  size := by simp
  frame := fun c' hc hn => by
    show (w.heap.modify c _)[c']? = _
    rw [Array.getElem?_modify, if_neg (fun (hh : c = c') => hn ⟨b, hh ▸ hb, hl⟩)]
  next := Nat.le_refl _
  old := fun _ _ h => h
  hits := fun _ h => .inr h
  sizes := fun c' cs t fr hc => by
    show ∃ (cs' : Array Value) (t' : TypeId) (fr' : Nat × Nat), (w.heap.modify c _)[c']? = some (Obj.cells cs' t' fr') ∧ cs'.size = cs.size
    rw [Array.getElem?_modify, hc]
    by_cases hh : c = c'
    · rw [if_pos hh]
      exact ⟨_, _, _, rfl, by simp⟩
    · rw [if_neg hh]
      exact ⟨cs, t, fr, rfl, rfl⟩

theorem set_get (H : AHeap) (b : Nat) (o : AObj) (x : Nat) : (H.set b o).get x = if x = b then some o else H.get x := rfl

/-- What a block holds is turned, in the world and in the heap alike. -/
theorem HRel.turn {e : Emb} {H : AHeap} {w w' : World} (h : HRel e H w) {b c : Nat} {o o' : AObj} (hb : H.get b = some o) (hc : e.map b = some c) (hv : Evo e w e w')
    (hother : ∀ c', c' ≠ c → w'.heap[c']? = w.heap[c']?) (ho : ObjRel e w' c o') : HRel e (H.set b o') w' := by
  refine ⟨h.next, h.fresh, h.inj, fun x q hx hl => ?_, fun x q c' hq hx => ?_, fun x q hq => ?_, fun x q hx => Nat.lt_of_lt_of_le (h.lt x q hx) hv.size⟩
  · rw [set_get]
    by_cases h1 : x = b
    · rw [if_pos h1]; exact ⟨_, rfl⟩
    · rw [if_neg h1]; exact h.dom x q hx hl
  · rw [set_get] at hq
    by_cases h1 : x = b
    · subst h1
      rw [if_pos rfl] at hq
      injection hq with hq
      have : c' = c := by rw [hc] at hx; injection hx with hx; exact hx.symm
      subst hq this
      exact ⟨(h.obj x o c' hb hc).1, ho⟩
    · rw [if_neg h1] at hq
      obtain ⟨h2, h3⟩ := h.obj x q c' hq hx
      refine ⟨h2, h3.evo hv (hother c' fun hcc => h1 ?_)⟩
      exact h.inj x b c (hcc ▸ hx) hc h2 (h.obj b o c hb hc).1
  · rw [set_get] at hq
    by_cases h1 : x = b
    · rw [h1]; exact h.get b o hb
    · rw [if_neg h1] at hq; exact h.get x q hq

theorem HRel.setCell {e : Emb} {H : AHeap} {w : World} (h : HRel e H w) {b : Nat} {l : List AV} (hb : H.get b = some (.cells l)) {c : Nat} (hc : e.map b = some c)
    (off : Nat) (x : AV) (u : Value) (hx : VRel e w x u) (hoff : off < l.length) : HRel e (H.set b (.cells (l.set off x))) (w.setCell ⟨c, off, none⟩ u) := by
  obtain ⟨hl, cs, t, h2, h3⟩ := h.obj b _ c hb hc
  have hv := Evo.setCell (w := w) b hc hl off u
  refine h.turn hb hc hv (fun c' hne => ?_) ⟨cs.setIfInBounds off u, t, ?_, fun i y hy => ?_⟩
  · show (w.heap.modify c _)[c']? = _
    rw [Array.getElem?_modify, if_neg (fun h => hne h.symm)]
  · show (w.heap.modify c _)[c]? = _
    rw [Array.getElem?_modify, if_pos rfl, h2]
    simp
  · rw [List.getElem?_set] at hy
    split at hy
    · rename_i hio
      subst hio
      obtain ⟨u0, h4, _⟩ := h3 off _ (List.getElem?_eq_getElem hoff)
      have hlt := (Array.getElem?_eq_some_iff.1 h4).1
      injection hy with hy
      subst hy
      exact ⟨u, by rw [Array.getElem?_setIfInBounds, if_pos rfl, if_pos hlt], hx.evo hv⟩
    · rename_i hio
      obtain ⟨u0, h4, h5⟩ := h3 i y hy
      exact ⟨u0, by rw [Array.getElem?_setIfInBounds, if_neg hio]; exact h4, h5.evo hv⟩

end Go.Proofs.Ytooaiddfokbffaa.E

/- The operations over abstract values and the abstract heap, what of the model's operations they stand for. Conditions: none. -/
set_option linter.unusedVariables false
set_option linter.unusedSimpArgs false
namespace Go.Proofs.Ytooaiddfokbffaa.E
open Go

inductive AArg where
  | t (n : Nat)
  | c (x : AV)

def AArg.ev (tm : Nat → AV) : AArg → AV
  | .t n => tm n
  | .c x => x

inductive LK where
  | str | slice | map

inductive FK where
  | int | bool | str

inductive NKind where
  | ptr | slice | map | func | iface

inductive AOp where
  | move (x : AArg)
  | pick (c a b : AArg)
  | alloc (z : List AV)
  | box (x : AArg)
  | build (z : List AV) (parts : List (Nat × Nat × AArg))
  | buildS (es n : Nat) (z : List AV) (parts : List (Nat × Nat × AArg))
  | load (agg : Bool) (n : Nat) (a : AArg)
  | store (n : Nat) (a x : AArg)
  | nilchk (x : AArg)
  | ibin (op : BinOp) (x y : AArg)
  | sbin (op : BinOp) (x y : AArg)
  | bbin (neq : Bool) (x y : AArg)
  | nbin (neq : Bool) (k : NKind) (x : AArg)
  | ebin (neq : Bool) (ks : List FK) (x y : AArg)
  | not (x : AArg)
  | neg (x : AArg)
  | conv (k : IntKind) (x : AArg)
  | fld (off : Nat) (x : AArg)
  | idx (es : Nat) (x i : AArg)
  | idxA (len es : Nat) (x i : AArg)
  | part (agg : Bool) (off n : Nat) (x : AArg)
  | aidx (agg : Bool) (len n : Nat) (x i : AArg)
  | sidx (x i : AArg)
  | slice (es : Nat) (x : AArg) (lo hi mx : Option AArg)
  | sslice (x : AArg) (lo hi : Option AArg)
  | mks (z : List AV) (bytes : Nat) (l c : AArg)
  | ext (x : AArg) (i : Nat)
  | func (f : Fn) (first captured : List AArg)
  | len (k : LK) (x : AArg)
  | append (es bytes : Nat) (s x : AArg)
  | mm (isMax : Bool) (x y : AArg)

/-! ### What they do -/
def setL : List AV → Nat → List AV → List AV
  | l, _, [] => l
  | l, i, x :: xs => setL (l.set i x) (i + 1) xs

def aload (H : AHeap) (n : Nat) : AV → Option (List AV)
  | .ptr b off => match H.get b with
    | some (.cells l) => if off + n ≤ l.length then some ((l.drop off).take n) else none
    | _ => none
  | .rop cells off => if off + n ≤ cells.length then some ((cells.drop off).take n) else none
  | _ => none

def apack (agg : Bool) (cs : List AV) : Option AV :=
  if agg then some (.agg cs) else match cs with
    | [x] => some x
    | _ => none

def astore (H : AHeap) (n : Nat) (a x : AV) : Option AHeap :=
  match a with
  | .ptr b off => match H.get b with
    | some (.cells l) => if x.acells.length = n ∧ off + n ≤ l.length ∧ x.acells.all AV.one then some (H.set b (.cells (setL l off x.acells))) else none
    | _ => none
  | _ => none

def afill : List AV → List (Nat × Nat × AV) → Option (List AV)
  | cs, [] => some cs
  | cs, (off, n, x) :: rest => if x.acells.length = n ∧ off + n ≤ cs.length then afill (setL cs off x.acells) rest else none

def ibin : BinOp → IntKind → Int → Int → Option Value
  | .add, k, a, b => some (.int k (k.wrap (a + b)))
  | .sub, k, a, b => some (.int k (k.wrap (a - b)))
  | .mul, k, a, b => some (.int k (k.wrap (a * b)))
  | .quo, k, a, b => if b = 0 then none else some (.int k (k.wrap (a.tdiv b)))
  | .rem, k, a, b => if b = 0 then none else some (.int k (a.tmod b))
  | .eql, _, a, b => some (.bool (a == b))
  | .neq, _, a, b => some (.bool (a != b))
  | .lss, _, a, b => some (.bool (a < b))
  | .leq, _, a, b => some (.bool (a ≤ b))
  | .gtr, _, a, b => some (.bool (a > b))
  | .geq, _, a, b => some (.bool (a ≥ b))
  | .and, k, a, b => some (.int k (bits .and k a b))
  | .or, k, a, b => some (.int k (bits .or k a b))
  | .xor, k, a, b => some (.int k (bits .xor k a b))
  | .andNot, k, a, b => some (.int k (bits .andNot k a b))
  | _, _, _, _ => none

def ishift : BinOp → IntKind → Int → Int → Option Value
  | .shl, k, a, b => if b < 0 then none else some (.int k (k.wrap (a * 2 ^ (min b.toNat k.bits))))
  | .shr, k, a, b => if b < 0 then none else some (.int k (a.fdiv (2 ^ (min b.toNat k.bits))))
  | _, _, _, _ => none

def isShift : BinOp → Bool
  | .shl | .shr => true
  | _ => false

def bsLe (a b : ByteArray) : List UInt8 × List UInt8 := (a.data.toList, b.data.toList)

def sbin : BinOp → ByteArray → ByteArray → Option Value
  | .add, a, b => if a.size + b.size ≤ 9223372036854775807 then some (.string (a ++ b)) else none
  | .eql, a, b => some (.bool (a.data.toList == b.data.toList))
  | .neq, a, b => some (.bool !(a.data.toList == b.data.toList))
  | .lss, a, b => some (.bool (Op.bytesLess a.data.toList b.data.toList))
  | .leq, a, b => some (.bool (Op.bytesLess a.data.toList b.data.toList || a.data.toList == b.data.toList))
  | .gtr, a, b => some (.bool !(Op.bytesLess a.data.toList b.data.toList || a.data.toList == b.data.toList))
  | .geq, a, b => some (.bool !(Op.bytesLess a.data.toList b.data.toList))
  | _, _, _ => none

/-- Is a value nil? -/
def anil : NKind → AV → Option Bool
  | .ptr, .v (.pointer none) => some true
  | .ptr, .ptr .. => some false
  | .ptr, .rop .. => some false
  | .slice, .v (.slice none _ _) => some true
  | .slice, .slc .. => some false
  | .slice, .ro .. => some false
  | .map, .v (.map none) => some true
  | .map, .mp _ => some false
  | .func, .v .nilFunc => some true
  | .func, .fn .. => some false
  | .iface, .v .nilIface => some true
  | .iface, .ifc .. => some false
  | _, _ => none

/-- Are two rows of plain cells one? -/
def aeqs : List FK → List AV → List AV → Option Bool
  | [], [], [] => some true
  | .int :: ks, .v (.int k a) :: xs, .v (.int k' b) :: ys => if k = k' then (aeqs ks xs ys).map fun r => a == b && r else none
  | .bool :: ks, .v (.bool a) :: xs, .v (.bool b) :: ys => (aeqs ks xs ys).map fun r => a == b && r
  | .str :: ks, .v (.string a) :: xs, .v (.string b) :: ys => (aeqs ks xs ys).map fun r => a.data.toList == b.data.toList && r
  | _, _, _ => none

def anat : Option AV → Option (Option Nat)
  | none => some none
  | some (.v (.int _ n)) => if 0 ≤ n then some (some n.toNat) else none
  | _ => none

def acut (L : Nat) (ex : Bool) (len : Nat) (lo hi mx : Option Nat) : Option (Nat × Nat × Nat × Bool) :=
  let l := lo.getD 0
  let h := hi.getD len
  match mx, hi with
  | some m, some _ => if l ≤ h ∧ h ≤ m ∧ m ≤ L then some (l, h, m - l, true) else none
  | some _, none => none
  | none, _ => if l ≤ h ∧ h ≤ L then some (l, h, L - l, ex) else none

def aslice (es : Nat) (x : AV) (lo hi mx : Option Nat) : Option AV :=
  match x with
  | .v (.slice none 0 0) => if lo.getD 0 = 0 ∧ hi.getD 0 = 0 ∧ mx.getD 0 = 0 ∧ (mx.isSome → hi.isSome) then some x else none
  | .slc b off es' len lo' ex =>
    match acut (max len lo') ex len lo hi mx with
    | some (l, h, m, ex') => if es' = es then (if 0 < m then some (.slc b (off + l * es) es (h - l) m ex') else some (.ro 0 0 ex' [])) else none
    | none => none
  | .ro len lo' ex cells =>
    match acut (max len lo') ex len lo hi mx with
    | some (l, h, m, ex') => if 0 < m then some (.ro (h - l) m ex' (cells.drop (l * es))) else some (.ro 0 0 ex' [])
    | none => none
  | _ => none

def asrc (H : AHeap) (es : Nat) : AV → Option (Nat × List AV)
  | .v (.slice none 0 0) => some (0, [])
  | .ro len _ _ cells => if len * es ≤ cells.length then some (len, cells.take (len * es)) else none
  | .slc b off es' len _ _ => match H.get b with
    | some (.cells l) => if es' = es ∧ off + len * es ≤ l.length then some (len, (l.drop off).take (len * es)) else none
    | _ => none
  | _ => none

def aappend (H : AHeap) (es bytes : Nat) (s x : AV) : Option (AV × AHeap) :=
  match asrc H es x with
  | none => none
  | some (n, new) =>
    if new.all AV.one = false ∨ es = 0 then none else
    match s with
    | .v (.slice none 0 0) => if n = 0 then some (s, H) else
        if n * bytes ≤ 140737488355328 ∧ n ≤ 9223372036854775807 then some (.slc H.next 0 es n n false, H.new (.cells new)) else none
    | .ro len lo ex cells =>
        if ex = true ∧ lo < len + n ∧ len * es ≤ cells.length ∧ (len + n) * bytes ≤ 140737488355328 ∧ len + n ≤ 9223372036854775807 then
          some (.slc H.next 0 es (len + n) (len + n) false, H.new (.cells (cells.take (len * es) ++ new)))
        else if n = 0 then some (s, H) else none
    | .slc b off es' len lo ex => match H.get b with
      | some (.cells l) => if es' = es ∧ off + len * es ≤ l.length then
          if n = 0 then some (s, H)
          else if len + n ≤ lo then
            (if off + (len + n) * es ≤ l.length then some (.slc b off es (len + n) lo ex, H.set b (.cells (setL l (off + len * es) new))) else none)
          else if (len + n) * bytes ≤ 140737488355328 ∧ len + n ≤ 9223372036854775807 then
            if ex = true then some (.slc H.next 0 es (len + n) (len + n) false, H.new (.cells ((l.drop off).take (len * es) ++ new)))
            else if off = 0 ∧ l.length = len * es then some (.slc H.next 0 es (len + n) (len + n) false, (H.kill b).new (.cells (l ++ new)))
            else none
          else none
        else none
      | _ => none
    | _ => none

def amm (isMax : Bool) : AV → AV → Option AV
  | .v (.int k x), .v (.int _ y) => some (.v (.int k (if isMax then (if y > x then y else x) else (if y < x then y else x))))
  | _, _ => none

def alen (H : AHeap) : LK → AV → Option Nat
  | .str, .v (.string s) => some s.size
  | .slice, .v (.slice none n _) => if n = 0 then some 0 else none
  | .slice, .slc _ _ _ n _ _ => some n
  | .slice, .ro n _ _ _ => some n
  | .map, .mp b => match H.get b with
    | some (.map es _) => some es.length
    | _ => none
  | .map, .v (.map none) => some 0
  | _, _ => none

def amake (es : List AV) (bytes : Nat) (H : AHeap) : AV → AV → Option (AV × AHeap)
  | .v (.int _ l), .v (.int _ c) => if 0 ≤ l ∧ l ≤ c ∧ (bytes : Int) * c ≤ 281474976710656 ∧ c ≤ 9223372036854775807 ∧ 0 < es.length then
      some (.slc H.next 0 es.length l.toNat c.toNat true, H.new (.cells (List.replicate c.toNat es).flatten)) else none
  | _, _ => none

def afld (off : Nat) : AV → Option AV
  | .ptr b o => some (.ptr b (o + off))
  | .rop c o => some (.rop c (o + off))
  | _ => none

def aix (es : Nat) (n : Int) : AV → Option AV
  | .slc b off _ len _ _ => if 0 ≤ n ∧ n < len then some (.ptr b (off + n.toNat * es)) else none
  | .ro len _ _ cells => if 0 ≤ n ∧ n < len then some (.rop cells (n.toNat * es)) else none
  | _ => none

def aixA (len es : Nat) (n : Int) : AV → Option AV
  | .ptr b off => if 0 ≤ n ∧ n < len then some (.ptr b (off + n.toNat * es)) else none
  | .rop cells off => if 0 ≤ n ∧ n < len then some (.rop cells (off + n.toNat * es)) else none
  | _ => none

def aop (tm : Nat → AV) (H : AHeap) : AOp → Option (AV × AHeap)
  | .move x => some (x.ev tm, H)
  | .pick c a b => match c.ev tm with
    | .v (.bool t) => some (if t then a.ev tm else b.ev tm, H)
    | _ => none
  | .alloc z => some (.ptr H.next 0, H.new (.cells z))
  | .box x => some (.ptr H.next 0, H.new (.cells (x.ev tm).acells))
  | .build z parts => (afill z (parts.map fun p => (p.1, p.2.1, p.2.2.ev tm))).map fun cs => (.agg cs, H)
  | .buildS es n z parts => (afill z (parts.map fun p => (p.1, p.2.1, p.2.2.ev tm))).map fun cs => (.slc H.next 0 es n n true, H.new (.cells cs))
  | .load agg n a => ((aload H n (a.ev tm)).bind (apack agg)).map fun x => (x, H)
  | .store n a x => (astore H n (a.ev tm) (x.ev tm)).map fun H' => (uv, H')
  | .nilchk x => match x.ev tm with
    | .ptr b o => some (.ptr b o, H)
    | .rop c o => some (.rop c o, H)
    | .fn (.func f) a b => some (.fn (.func f) a b, H)
    | .ifc t y => some (.ifc t y, H)
    | _ => none
  | .ibin op x y => match x.ev tm, y.ev tm with
    | .v (.int k a), .v (.int k' b) => if isShift op then (ishift op k a b).map fun r => (.v r, H) else if k = k' then (ibin op k a b).map fun r => (.v r, H) else none
    | _, _ => none
  | .sbin op x y => match x.ev tm, y.ev tm with
    | .v (.string a), .v (.string b) => (sbin op a b).map fun r => (.v r, H)
    | _, _ => none
  | .bbin neq x y => match x.ev tm, y.ev tm with
    | .v (.bool a), .v (.bool b) => some (.v (.bool (if neq then !(a == b) else a == b)), H)
    | _, _ => none
  | .nbin neq k x => (anil k (x.ev tm)).map fun r => (.v (.bool (if neq then !r else r)), H)
  | .ebin neq ks x y => match x.ev tm, y.ev tm with
    | .agg a, .agg b => (aeqs ks a b).map fun r => (.v (.bool (if neq then !r else r)), H)
    | _, _ => none
  | .not x => match x.ev tm with
    | .v (.bool a) => some (.v (.bool !a), H)
    | _ => none
  | .neg x => match x.ev tm with
    | .v (.int k a) => some (.v (.int k (k.wrap (0 - a))), H)
    | _ => none
  | .conv k x => match x.ev tm with
    | .v (.int _ a) => some (.v (.int k (k.wrap a)), H)
    | _ => none
  | .fld off x => (afld off (x.ev tm)).map fun y => (y, H)
  | .idx es x i => match i.ev tm with
    | .v (.int _ n) => (aix es n (x.ev tm)).map fun y => (y, H)
    | _ => none
  | .idxA len es x i => match i.ev tm with
    | .v (.int _ n) => (aixA len es n (x.ev tm)).map fun y => (y, H)
    | _ => none
  | .part agg off n x => match x.ev tm with
    | .agg cs => if off + n ≤ cs.length then (apack agg ((cs.drop off).take n)).map fun y => (y, H) else none
    | _ => none
  | .aidx agg len n x i => match x.ev tm, i.ev tm with
    | .agg cs, .v (.int _ j) => if 0 ≤ j ∧ j < len ∧ j.toNat * n + n ≤ cs.length then (apack agg ((cs.drop (j.toNat * n)).take n)).map fun y => (y, H) else none
    | _, _ => none
  | .sidx x i => match x.ev tm, i.ev tm with
    | .v (.string s), .v (.int _ j) => if 0 ≤ j then (s.data.toList[j.toNat]?).map fun b => (.v (.int .u8 b.toNat), H) else none
    | _, _ => none
  | .slice es x lo hi mx => match anat (lo.map (·.ev tm)), anat (hi.map (·.ev tm)), anat (mx.map (·.ev tm)) with
    | some l, some h, some m => (aslice es (x.ev tm) l h m).map fun y => (y, H)
    | _, _, _ => none
  | .sslice x lo hi => match x.ev tm, anat (lo.map (·.ev tm)), anat (hi.map (·.ev tm)) with
    | .v (.string s), some l, some h => if l.getD 0 ≤ h.getD s.size ∧ h.getD s.size ≤ s.size then some (.v (.string (s.extract (l.getD 0) (h.getD s.size))), H) else none
    | _, _, _ => none
  | .mks z bytes l c => amake z bytes H (l.ev tm) (c.ev tm)
  | .ext x i => match x.ev tm with
    | .tup vs => (vs[i]?).map fun y => (y, H)
    | _ => none
  | .func f first captured => some (.fn f (first.map (·.ev tm)) (captured.map (·.ev tm)), H)
  | .len k x => (alen H k (x.ev tm)).map fun (n : Nat) => (AV.v (.int .i64 (n : Int)), H)
  | .append es bytes s x => aappend H es bytes (s.ev tm) (x.ev tm)
  | .mm isMax x y => (amm isMax (x.ev tm) (y.ev tm)).map fun r => (r, H)

/-! ### What of the model's operations they stand for -/
def cval (x : Value) : Option AV :=
  match x with
  | .agg cs => if cs.all notAgg then some (.agg (cs.toList.map .v)) else none
  | .func f fs cs => if fs.size = 0 ∧ cs.size = 0 then some (.fn f [] []) else none
  | x => some (.v x)

def carg : Operand → Option AArg
  | .tmp t => some (.t t)
  | .const v => (cval v).map .c
  | .func f => some (.c (.fn (.func f) [] []))
  | .global g => some (.c (.v (.pointer (some ⟨g, 0, none⟩))))

def cargO : Option Operand → Option (Option AArg)
  | none => some none
  | some x => (carg x).map some

def tSize (P : Program) (t : TypeId) : Option Nat := (P.info? t).map (·.size)
def tZero (P : Program) (t : TypeId) : Option (List AV) := ((P.info? t).bind (·.zero)).bind fun z => (cval z).map (·.acells)
def aggD : TypeDesc → Bool
  | .struct _ | .array _ _ => true
  | _ => false
def tAgg (P : Program) (t : TypeId) : Option Bool := (P.underlying t).map aggD

/-- Kinds of types that have a nil, and their nil. -/
def nilD : TypeDesc → Operand → Option NKind
  | .pointer _, .const (.pointer none) => some .ptr
  | .slice _, .const (.slice none _ _) => some .slice
  | .map _ _, .const (.map none) => some .map
  | .func _ _ _, .const .nilFunc => some .func
  | .interface _, .const .nilIface => some .iface
  | _, _ => none

end Go.Proofs.Ytooaiddfokbffaa.E

/- Reading, writing and building: the model's steps follow the abstract ones. Conditions: none. -/
set_option linter.unusedVariables false
set_option linter.unusedSimpArgs false
namespace Go.Proofs.Ytooaiddfokbffaa.E
open Go

section
variable {e : Emb} {w : World} {H : AHeap} {P : Program}

theorem LRel.len {xs : List AV} {us : List Value} (h : LRel e w xs us) : us.length = xs.length := h.1

theorem LRel.nil : LRel e w [] [] := ⟨rfl, fun i x u h => by simp at h⟩
theorem LRel.cons {x : AV} {u : Value} {xs : List AV} {us : List Value} (hx : VRel e w x u) (h : LRel e w xs us) : LRel e w (x :: xs) (u :: us) :=
  ⟨by simp [h.1], fun i y v h1 h2 => by
    cases i with
    | zero => simp at h1 h2; exact h1 ▸ h2 ▸ hx
    | succ i => simp at h1 h2; exact h.2 i y v h1 h2⟩
theorem LRel.head {x : AV} {u : Value} {xs : List AV} {us : List Value} (h : LRel e w (x :: xs) (u :: us)) : VRel e w x u := h.2 0 x u rfl rfl
theorem LRel.tail {x : AV} {u : Value} {xs : List AV} {us : List Value} (h : LRel e w (x :: xs) (u :: us)) : LRel e w xs us :=
  ⟨by have := h.1; simpa using this, fun i y v h1 h2 => h.2 (i + 1) y v (by simpa using h1) (by simpa using h2)⟩
theorem LRel.get {xs : List AV} {us : List Value} (h : LRel e w xs us) {i : Nat} {x : AV} (hx : xs[i]? = some x) : ∃ u, us[i]? = some u ∧ VRel e w x u := by
  have hi := (List.getElem?_eq_some_iff.1 hx).1
  have hi' : i < us.length := by rw [h.1]; exact hi
  exact ⟨us[i], List.getElem?_eq_getElem hi', h.2 i x _ hx (List.getElem?_eq_getElem hi')⟩
theorem LRel.of_get {xs : List AV} {us : List Value} (hl : us.length = xs.length) (h : ∀ (i : Nat) (x : AV), xs[i]? = some x → ∃ u, us[i]? = some u ∧ VRel e w x u) : LRel e w xs us :=
  ⟨hl, fun i x u h1 h2 => by
    obtain ⟨u', h3, h4⟩ := h i x h1
    rw [h2] at h3
    injection h3 with h3
    exact h3 ▸ h4⟩
theorem LRel.append {xs ys : List AV} {us vs : List Value} (h : LRel e w xs us) (k : LRel e w ys vs) : LRel e w (xs ++ ys) (us ++ vs) := by
  refine ⟨by simp [h.1, k.1], fun i x u h1 h2 => ?_⟩
  by_cases hi : i < xs.length
  · rw [List.getElem?_append_left hi] at h1
    rw [List.getElem?_append_left (by rw [h.1]; exact hi)] at h2
    exact h.2 i x u h1 h2
  · rw [List.getElem?_append_right (by omega)] at h1
    rw [List.getElem?_append_right (by rw [h.1]; omega), h.1] at h2
    exact k.2 _ x u h1 h2
theorem LRel.drop {xs : List AV} {us : List Value} (h : LRel e w xs us) (n : Nat) : LRel e w (xs.drop n) (us.drop n) :=
  ⟨by simp [h.1], fun i x u h1 h2 => by rw [List.getElem?_drop] at h1 h2; exact h.2 _ x u h1 h2⟩
theorem LRel.take {xs : List AV} {us : List Value} (h : LRel e w xs us) (n : Nat) : LRel e w (xs.take n) (us.take n) :=
  ⟨by simp [h.1], fun i x u h1 h2 => by
    rw [List.getElem?_take] at h1 h2
    by_cases hi : i < n
    · rw [if_pos hi] at h1 h2; exact h.2 _ x u h1 h2
    · rw [if_neg hi] at h1; cases h1⟩
theorem LRel.set {xs : List AV} {us : List Value} (h : LRel e w xs us) (n : Nat) {x : AV} {u : Value} (hx : VRel e w x u) : LRel e w (xs.set n x) (us.set n u) :=
  ⟨by simp [h.1], fun i y v h1 h2 => by
    rw [List.getElem?_set] at h1 h2
    by_cases hi : n = i
    · rw [if_pos hi] at h1 h2
      by_cases hl : n < xs.length
      · rw [if_pos hl] at h1
        rw [if_pos (by rw [h.1]; exact hl)] at h2
        injection h1 with h1
        injection h2 with h2
        exact h1 ▸ h2 ▸ hx
      · rw [if_neg hl] at h1; cases h1
    · rw [if_neg hi] at h1 h2; exact h.2 _ y v h1 h2⟩

theorem VRel.acells {x : AV} {u : Value} (h : VRel e w x u) : LRel e w x.acells u.cells.toList := by
  cases h with
  | v _ hx =>
    have : u.cells = #[u] := by cases u <;> simp_all [notAgg, Value.cells]
    rw [this]
    exact .cons (.v u hx) .nil
  | agg cells cs hn h => exact ⟨by simpa [Value.cells, AV.acells] using hn, fun i x u h1 h2 => h i x u h1 (by simpa [Value.cells] using h2)⟩
  | ptr b off c hc => exact .cons (.ptr b off c hc) .nil
  | slc b off es len lo ex c k h hl hlo hc cs t fr hw hs => exact .cons (.slc b off es len lo ex c k h hl hlo hc cs t fr hw hs) .nil
  | ro len lo ex cells a k us hl hlo hc hn hs hr => exact .cons (.ro len lo ex cells a k us hl hlo hc hn hs hr) .nil
  | rop cells off a us hn hs hr => exact .cons (.rop cells off a us hn hs hr) .nil
  | fn f first captured fs cs hf hc h1 h2 => exact .cons (.fn f first captured fs cs hf hc h1 h2) .nil
  | tup vs cs hn h => exact .cons (.tup vs cs hn h) .nil
  | ifc t x u h => exact .cons (.ifc t x u h) .nil
  | mp b r hm => exact .cons (.mp b r hm) .nil
  | ch b r hm => exact .cons (.ch b r hm) .nil
  | yld b r hm => exact .cons (.yld b r hm) .nil

theorem VRel.one {x : AV} {u : Value} (h : VRel e w x u) (h1 : x.one = true) : u.oneCell' = true := by
  cases h with
  | v _ hx => cases u <;> simp_all [AV.one, Value.oneCell', valOne]
  | _ => simp_all [AV.one, Value.oneCell']

theorem VRel.uv : VRel e w uv undef := .v undef rfl

theorem cval_rel {x : Value} {y : AV} (h : cval x = some y) : VRel e w y x := by
  unfold cval at h
  split at h
  · rename_i cs
    split at h
    · rename_i hc
      injection h with h
      subst h
      refine .agg _ _ (by simp) fun i y u h1 h2 => ?_
      rw [List.getElem?_map] at h1
      have h3 : cs.toList[i]? = some u := by simpa using h2
      rw [h3] at h1
      injection h1 with h1
      subst h1
      refine .v u ?_
      rw [Array.all_eq_true'] at hc
      exact hc u (Array.mem_of_getElem? h2)
    · cases h
  · rename_i f fs cs
    split at h
    · rename_i hc
      injection h with h
      subst h
      exact .fn f [] [] fs cs (by simpa using hc.1) (by simpa using hc.2) (fun i x u h => by simp at h) (fun i x u h => by simp at h)
    · cases h
  · injection h with h
    subst h
    refine .v x ?_
    cases x <;> simp_all [notAgg]

/-- The places of a frame, of the call's own. -/
def TRel (e : Emb) (w : World) (tm : Nat → AV) (a : Act) : Prop := ∀ n, VRel e w (tm n) (a.tmps.getD n undef)

theorem carg_rel {tm : Nat → AV} {a : Act} (h : TRel e w tm a) {x : Operand} {y : AArg} (hx : carg x = some y) : VRel e w (y.ev tm) (a.eval x) := by
  cases x with
  | tmp t => simp only [carg, Option.some.injEq] at hx; subst hx; exact h t
  | const v =>
    simp only [carg, Option.map_eq_some_iff] at hx
    obtain ⟨z, hz, rfl⟩ := hx
    exact cval_rel hz
  | global g => simp only [carg, Option.some.injEq] at hx; subst hx; exact .v _ rfl
  | func f =>
    simp only [carg, Option.some.injEq] at hx
    subst hx
    exact .fn _ [] [] #[] #[] rfl rfl (fun i x u h => by simp at h) (fun i x u h => by simp at h)

theorem cargO_rel {tm : Nat → AV} {a : Act} (h : TRel e w tm a) {x : Option Operand} {y : Option AArg} (hx : cargO x = some y) :
    (x = none ∧ y = none) ∨ ∃ x' y', x = some x' ∧ y = some y' ∧ VRel e w (y'.ev tm) (a.eval x') := by
  cases x with
  | none => simp only [cargO, Option.some.injEq] at hx; exact .inl ⟨rfl, hx.symm⟩
  | some x' =>
    simp only [cargO, Option.map_eq_some_iff] at hx
    obtain ⟨y', h1, rfl⟩ := hx
    exact .inr ⟨x', y', rfl, rfl, carg_rel h h1⟩

theorem TRel.evo {e' : Emb} {w' : World} (h : Evo e w e' w') {tm : Nat → AV} {a : Act} (ht : TRel e w tm a) : TRel e' w' tm a := fun n => (ht n).evo h

/-! ### Reading -/
theorem aload_rel (hH : HRel e H w) {n : Nat} {x : AV} {u : Value} (hx : VRel e w x u) {cs : List AV} (h : aload H n x = some cs) :
    ∃ (a : Addr) (us : List Value), u = .pointer (some a) ∧ us.length = n ∧ (∀ (j : Nat) (v : Value), us[j]? = some v → w.cell? (a.add j) = some v) ∧ LRel e w cs us := by
  cases hx <;> simp only [aload] at h <;> try (cases h; done)
  case ptr b off c hc =>
    split at h
    · rename_i l hl
      split at h
      · rename_i hle
        injection h with h
        subst h
        obtain ⟨_, cs, t, h1, h2⟩ := hH.obj b _ c hl hc
        have hsz : off + n ≤ cs.size := by
          rcases Nat.eq_zero_or_pos (off + n) with h0 | h0
          · omega
          · obtain ⟨u, h3, _⟩ := h2 (off + n - 1) (l[off + n - 1]'(by omega)) (List.getElem?_eq_getElem (by omega))
            have := (Array.getElem?_eq_some_iff.1 h3).1
            omega
        refine ⟨_, (cs.toList.drop off).take n, rfl, by simp; omega, fun j v hj => ?_, ?_⟩
        · rw [List.getElem?_take] at hj
          split at hj
          · rw [List.getElem?_drop] at hj
            rw [addr_add_plain]
            simp only [World.cell?, h1]
            simpa using hj
          · cases hj
        · refine LRel.of_get (by simp; omega) fun i x hx => ?_
          rw [List.getElem?_take] at hx ⊢
          split at hx
          · rename_i hi
            rw [if_pos hi, List.getElem?_drop]
            rw [List.getElem?_drop] at hx
            obtain ⟨u, h3, h4⟩ := h2 _ x hx
            exact ⟨u, by simpa using h3, h4⟩
          · cases hx
      · cases h
    · cases h
  case rop cells off a us hn hs hr =>
    split at h
    · rename_i hle
      injection h with h
      subst h
      have hb : LRel e w cells us := ⟨hn, hr⟩
      refine ⟨_, (us.drop off).take n, rfl, by simp; omega, fun j v hj => ?_, (hb.drop off).take n⟩
      rw [List.getElem?_take] at hj
      split at hj
      · rw [List.getElem?_drop] at hj
        rw [addr_add_add]
        exact (hs _ v hj).1
      · cases hj
    · cases h

theorem run_loadAt_agg {t : TypeId} {d : TypeDesc} (ht : P.underlying t = some d) (hd : aggD d = true) {a : Addr} {us : List Value} (hs : tSize P t = some us.length)
    (h : ∀ (j : Nat) (v : Value), us[j]? = some v → w.cell? (a.add j) = some v) : (Instr.loadAt t (.pointer (some a))).run P w = .ok (.agg us.toArray) w := by
  have hagg : (isAgg t).run P w = .ok true w := by
    simp only [isAgg, Sem.run_bind, run_underlying ht, Result.andThen_ok]
    cases d <;> first | rfl | (simp [aggD] at hd)
  simp only [tSize, Option.map_eq_some_iff] at hs
  obtain ⟨i, hi, hsz⟩ := hs
  simp only [Instr.loadAt, Instr.sureAddr, loadVar, Sem.run_bind, Sem.run_pure, Result.andThen_ok, hagg, if_true, sizeOf, typeInfo, run_program, hi, hsz]
  rw [run_loadCells_list w a us h]
  rfl

theorem run_loadAt_one {t : TypeId} {d : TypeDesc} (ht : P.underlying t = some d) (hd : aggD d = false) {a : Addr} {u : Value} (h : w.cell? a = some u) :
    (Instr.loadAt t (.pointer (some a))).run P w = .ok u w := by
  have hagg : (isAgg t).run P w = .ok false w := by
    simp only [isAgg, Sem.run_bind, run_underlying ht, Result.andThen_ok]
    cases d <;> first | rfl | (simp [aggD] at hd)
  simp [Instr.loadAt, Instr.sureAddr, loadVar, hagg, h]

theorem apack_rel {agg : Bool} {cs : List AV} {us : List Value} (h : LRel e w cs us) {x : AV} (hx : apack agg cs = some x) :
    (agg = true ∧ VRel e w x (.agg us.toArray)) ∨ (agg = false ∧ ∃ u, us = [u] ∧ VRel e w x u) := by
  unfold apack at hx
  split at hx
  · rename_i ha
    injection hx with hx
    subst hx
    exact .inl ⟨ha, .agg _ _ (by simpa using h.1) fun i x u h1 h2 => h.2 i x u h1 (by simpa using h2)⟩
  · rename_i ha
    split at hx
    · rename_i y
      injection hx with hx
      subst hx
      have hl := h.1
      obtain ⟨u, rfl⟩ := List.length_eq_one_iff.1 (by simpa using hl)
      exact .inr ⟨by simpa using ha, u, rfl, h.head⟩
    · cases hx

/-! ### Writing -/
theorem AHeap.set_self {b : Nat} {o : AObj} (h : H.get b = some o) : H.set b o = H := by
  unfold AHeap.set
  cases H with
  | mk g n =>
    congr
    funext x
    split
    · rename_i hx; subst hx; exact h.symm
    · rfl
theorem AHeap.set_set (b : Nat) (o o' : AObj) : (H.set b o).set b o' = H.set b o' := by
  unfold AHeap.set
  congr
  funext x
  dsimp only
  split <;> rfl
@[simp] theorem AHeap.get_set_same (b : Nat) (o : AObj) : (H.set b o).get b = some o := by simp [AHeap.set]
@[simp] theorem AHeap.next_set (b : Nat) (o : AObj) : (H.set b o).next = H.next := rfl
@[simp] theorem AHeap.next_new (o : AObj) : (H.new o).next = H.next + 1 := rfl

theorem setL_length (l : List AV) (i : Nat) (xs : List AV) : (setL l i xs).length = l.length := by
  induction xs generalizing l i with
  | nil => rfl
  | cons x xs ih => simp [setL, ih]

theorem storeCells_rel {b c off : Nat} : ∀ (xs : List AV) (us : List Value) (i : Nat) (l : List AV) (w : World) (H : AHeap), HRel e H w → H.get b = some (.cells l) → e.map b = some c →
    LRel e w xs us → xs.all AV.one = true → off + i + xs.length ≤ l.length →
    ∃ w', (storeCells ⟨c, off, none⟩ us i).run P w = .ok () w' ∧ HRel e (H.set b (.cells (setL l (off + i) xs))) w' ∧ Evo e w e w' := by
  intro xs
  induction xs with
  | nil =>
    intro us i l w H hH hl hc hr _ _
    have : us = [] := List.eq_nil_of_length_eq_zero hr.1
    subst this
    exact ⟨w, by simp [storeCells], by rw [show setL l (off + i) [] = l from rfl, AHeap.set_self hl]; exact hH, Evo.refl e w⟩
  | cons x xs ih =>
    intro us i l w H hH hl hc hr ho hle
    cases us with
    | nil => exact absurd hr.1 (by simp)
    | cons u us =>
      simp only [List.all_cons, Bool.and_eq_true] at ho
      simp only [List.length_cons] at hle
      have hx := hr.head
      have h1 := HRel.setCell hH hl hc (off + i) x u hx (by omega)
      have hv := Evo.setCell (w := w) b hc (hH.obj b _ c hl hc).1 (off + i) u
      obtain ⟨w', hw', hH', hv'⟩ := ih us (i + 1) (l.set (off + i) x) _ _ h1 (by simp) hc (hr.tail.evo hv) ho.2 (by simp; omega)
      refine ⟨w', ?_, ?_, hv.trans hv'⟩
      · obtain ⟨_, cs, t, h2, h3⟩ := hH.obj b _ c hl hc
        obtain ⟨u0, h4, _⟩ := h3 (off + i) (l[off + i]'(by omega)) (List.getElem?_eq_getElem (by omega))
        have hcell : w.cell? ⟨c, off + i, none⟩ = some u0 := by simp only [World.cell?, h2]; simpa using h4
        have hfr : w.frozen? ⟨c, off + i, none⟩ = false := by simp [World.frozen?, h2]
        simp only [storeCells, Sem.run_bind, addr_add_plain, run_store P w _ u .plain (hx.one ho.1), hcell, hfr, Result.andThen_ok]
        simpa using hw'
      · rw [AHeap.set_set] at hH'
        rw [show off + (i + 1) = off + i + 1 by omega] at hH'
        exact hH'

theorem astore_rel (hH : HRel e H w) {t : TypeId} {n : Nat} (hs : tSize P t = some n) {a x : AV} {ua ux : Value} (ha : VRel e w a ua) (hx : VRel e w x ux) {H' : AHeap} (h : astore H n a x = some H') :
    ∃ w', (Instr.storeAt t ua ux).run P w = .ok () w' ∧ HRel e H' w' ∧ Evo e w e w' := by
  cases ha <;> simp only [astore] at h <;> try (cases h; done)
  case ptr b off c hc =>
    split at h
    · rename_i l hl
      split at h
      · rename_i hle
        injection h with h
        subst h
        have hxc := hx.acells
        obtain ⟨w', h1, h2, h3⟩ := storeCells_rel (P := P) (off := off) _ _ 0 l w H hH hl hc hxc hle.2.2 (by omega)
        refine ⟨w', ?_, by simpa using h2, h3⟩
        simp only [tSize, Option.map_eq_some_iff] at hs
        obtain ⟨i, hi, hsz⟩ := hs
        have hsize : ux.cells.size = n := by rw [← Array.length_toList, hxc.1, hle.1]
        simp only [Instr.storeAt, Instr.sureAddr, storeVar, Sem.run_bind, Sem.run_pure, Result.andThen_ok, sizeOf, typeInfo, run_program, hi, hsz, hsize, ne_eq, not_true, if_false]
        exact h1
      · cases h
    · cases h

/-! ### Building -/
theorem fold_set_rel : ∀ (xs : List AV) (us : List Value) (off k : Nat) (l : List AV) (cs : Array Value), LRel e w xs us → LRel e w l cs.toList →
    LRel e w (setL l (off + k) xs) ((us.zipIdx k).foldl (fun cs p => cs.setIfInBounds (off + p.2) p.1) cs).toList := by
  intro xs
  induction xs with
  | nil =>
    intro us off k l cs h hl
    have : us = [] := List.eq_nil_of_length_eq_zero h.1
    subst this
    exact hl
  | cons x xs ih =>
    intro us off k l cs h hl
    cases us with
    | nil => exact absurd h.1 (by simp)
    | cons u us =>
      simp only [List.zipIdx_cons, List.foldl_cons, setL]
      rw [show off + k + 1 = off + (k + 1) by omega]
      refine ih us off (k + 1) _ _ h.tail ?_
      rw [Array.toList_setIfInBounds]
      exact hl.set _ h.head

theorem fill_rel (place : Nat → Option (Nat × Nat)) : ∀ (ps : List (Nat × Nat × AV)) (vs : List (Nat × Value)) (l : List AV) (cs : Array Value), LRel e w l cs.toList →
    vs.length = ps.length → (∀ (i : Nat) (p : Nat × Nat × AV) (v : Nat × Value), ps[i]? = some p → vs[i]? = some v → place v.1 = some (p.1, p.2.1) ∧ VRel e w p.2.2 v.2) →
    ∀ l', afill l ps = some l' → ∃ cs', Instr.fill place cs vs = some cs' ∧ LRel e w l' cs'.toList := by
  intro ps
  induction ps with
  | nil =>
    intro vs l cs hl hn _ l' h
    have : vs = [] := List.eq_nil_of_length_eq_zero hn
    subst this
    simp only [afill, Option.some.injEq] at h
    subst h
    exact ⟨cs, rfl, hl⟩
  | cons p ps ih =>
    intro vs l cs hl hn hp l' h
    cases vs with
    | nil => exact absurd hn (by simp)
    | cons v vs =>
      obtain ⟨off, n, x⟩ := p
      obtain ⟨i, u⟩ := v
      obtain ⟨h1, h2⟩ := hp 0 _ _ rfl rfl
      simp only [afill] at h
      split at h
      · rename_i hle
        have hc := h2.acells
        have hsz : u.cells.size = n := by rw [← Array.length_toList, hc.1]; exact hle.1
        have hls : cs.size = l.length := by rw [← Array.length_toList]; exact hl.1
        have hf := fold_set_rel _ _ off 0 _ _ hc hl
        rw [Nat.add_zero] at hf
        obtain ⟨cs', h3, h4⟩ := ih vs _ (u.cells.zipIdx.foldl (fun cs p => cs.setIfInBounds (off + p.2) p.1) cs) (by
          rw [← Array.foldl_toList, Array.toList_zipIdx]; exact hf) (by simpa using hn) (fun j p v hj hv => hp (j + 1) p v (by simpa using hj) (by simpa using hv)) l' h
        refine ⟨cs', ?_, h4⟩
        simp only [Instr.fill, h1]
        rw [if_neg (by simp [hsz]; omega)]
        exact h3
      · cases h

end
end Go.Proofs.Ytooaiddfokbffaa.E

/- Each operation that is taken: the model's step follows the abstract one. Conditions: none. -/
set_option linter.unusedVariables false
set_option linter.unusedSimpArgs false
namespace Go.Proofs.Ytooaiddfokbffaa.E
open Go

/-- A step of the model comes to what the abstract one says. -/
def Goes (P : Program) (s : Sem Value) (e : Emb) (w : World) (x : AV) (H' : AHeap) : Prop :=
  ∃ u w' e', s.run P w = .ok u w' ∧ HRel e' H' w' ∧ VRel e' w' x u ∧ Evo e w e' w'

section
variable {e : Emb} {w : World} {H : AHeap} {P : Program}

theorem Goes.stay {s : Sem Value} {x : AV} {u : Value} (hH : HRel e H w) (hr : s.run P w = .ok u w) (hx : VRel e w x u) : Goes P s e w x H :=
  ⟨u, w, e, hr, hH, hx, Evo.refl e w⟩

theorem tZero_rel {t : TypeId} {l : List AV} (h : tZero P t = some l) : ∃ i z, P.info? t = some i ∧ i.zero = some z ∧ ∀ e w, LRel e w l z.cells.toList := by
  simp only [tZero, Option.bind_eq_some_iff, Option.map_eq_some_iff] at h
  obtain ⟨z, ⟨i, hi, hz⟩, y, hy, rfl⟩ := h
  exact ⟨i, z, hi, hz, fun e w => (cval_rel hy).acells⟩

theorem go_alloc (hH : HRel e H w) {t : TypeId} {z : List AV} (h : tZero P t = some z) : Goes P (Instr.alloc t true (.tuple #[])) e w (.ptr H.next 0) (H.new (.cells z)) := by
  obtain ⟨i, v, hi, hz, hr⟩ := tZero_rel h
  refine ⟨.pointer (some ⟨w.heap.size, 0, none⟩), w.alloc (.cells v.cells t), e.push w.heap.size, ?_, hH.allocCells z v.cells t ?_, ?_, Evo.alloc hH _⟩
  · simp [Instr.alloc, zeroValue, typeInfo, hi, hz, newVar, newRow]
  · intro j x hx
    obtain ⟨u, h1, h2⟩ := (hr e w).get hx
    exact ⟨u, by simpa using h1, h2⟩
  · rw [← hH.next]; exact VRel.new_ptr _ _ _

theorem go_box (hH : HRel e H w) (t : TypeId) {x : AV} {u : Value} (hx : VRel e w x u) : Goes P (Instr.box t u) e w (.ptr H.next 0) (H.new (.cells x.acells)) := by
  refine ⟨.pointer (some ⟨w.heap.size, 0, none⟩), w.alloc (.cells u.cells t), e.push w.heap.size, ?_, hH.allocCells _ u.cells t ?_, ?_, Evo.alloc hH _⟩
  · simp [Instr.box, newVar, newRow]
  · intro j x hx'
    obtain ⟨v, h1, h2⟩ := hx.acells.get hx'
    exact ⟨v, by simpa using h1, h2⟩
  · rw [← hH.next]; exact VRel.new_ptr _ _ _

theorem go_load (hH : HRel e H w) {t : TypeId} {d : TypeDesc} (ht : P.underlying t = some d) {n : Nat} (hs : tSize P t = some n) {x : AV} {u : Value} (hx : VRel e w x u) {y : AV}
    (h : (aload H n x).bind (apack (aggD d)) = some y) : Goes P (Instr.loadAt t u) e w y H := by
  obtain ⟨cs, h1, h2⟩ := Option.bind_eq_some_iff.1 h
  obtain ⟨a, us, rfl, hl, hc, hr⟩ := aload_rel hH hx h1
  rcases apack_rel hr h2 with ⟨ha, hv⟩ | ⟨ha, v, rfl, hv⟩
  · exact .stay hH (run_loadAt_agg ht ha (by rw [hl]; exact hs) hc) hv
  · exact .stay hH (run_loadAt_one ht ha (by simpa [Addr.add] using hc 0 v rfl)) hv

/-! ### Numbers, strings, truths -/
theorem ibin_run {op : BinOp} {k : IntKind} {a b : Int} {r : Value} (h : ibin op k a b = some r) (t : TypeId) (x y : Operand) :
    (do eqGuard op t x y (.int k a) (.int k b); binOp op t (.int k a) (.int k b)).run P w = .ok r w ∧ notAgg r = true := by
  have hg : eqGuard op t x y (.int k a) (.int k b) = pure () := eqGuard_at_int ..
  rw [hg]
  cases op <;> simp only [ibin, Option.some.injEq] at h <;> try (cases h; done)
  case quo => split at h <;> simp at h; rename_i hb; subst h; simp [binOp, Op.intDiv, hb, notAgg]
  case rem => split at h <;> simp at h; rename_i hb; subst h; simp [binOp, Op.intDiv, hb, notAgg]
  all_goals (subst h; simp [binOp, Op.intArith, Op.intCmp, notAgg, intBits_and, intBits_or, intBits_xor, intBits_andNot])

theorem ishift_run {op : BinOp} {k k' : IntKind} {a b : Int} {r : Value} (h : ishift op k a b = some r) (t : TypeId) (x y : Operand) :
    (do eqGuard op t x y (.int k a) (.int k' b); binOp op t (.int k a) (.int k' b)).run P w = .ok r w ∧ notAgg r = true := by
  have hg : eqGuard op t x y (.int k a) (.int k' b) = pure () := eqGuard_at_int ..
  rw [hg]
  cases op <;> simp only [ishift] at h <;> try (cases h; done)
  all_goals (split at h <;> simp at h; rename_i hb; subst h; simp [binOp, Op.shift, hb, notAgg])

theorem toList_data (s : ByteArray) : s.toList = s.data.toList := ByteArray.toList_eq s

theorem sbin_run {op : BinOp} {a b : ByteArray} {r : Value} (h : sbin op a b = some r) (t : TypeId) (x y : Operand) :
    (do eqGuard op t x y (.string a) (.string b); binOp op t (.string a) (.string b)).run P w = .ok r w ∧ notAgg r = true := by
  have hg : eqGuard op t x y (.string a) (.string b) = pure () := eqGuard_at_string ..
  rw [hg]
  cases op <;> simp only [sbin, Option.some.injEq] at h <;> try (cases h; done)
  case add =>
    split at h <;> simp at h
    rename_i hb
    subst h
    have hn : ¬ (IntKind.i64.max < ((a.size + b.size : Nat) : Int)) := by rw [IntKind.max_i64]; omega
    have hn' : ¬ (9223372036854775807 < (a.size : Int) + (b.size : Int)) := by omega
    simp [binOp, Op.stringOp, notAgg, hn']
  all_goals (subst h; simp [binOp, Op.stringOp, notAgg, toList_data])

theorem run_eql_any (neq : Bool) (t : TypeId) (a b : Value) (hx : ∀ k n, a ≠ .int k n) (hs : ∀ s, a ≠ .string s) (hf : ∀ k n, a ≠ .float k n) (hc : ∀ k n m, a ≠ .complex k n m) :
    (binOp (if neq then .neq else .eql) t a b).run P w = ((Op.equal t a b).run P w).andThen fun r w' => .ok (.bool (if neq then !r else r)) w' := by
  cases neq
  · simp only [Bool.false_eq_true, if_false]
    unfold binOp
    split <;> first | (exfalso; simp_all; done) | skip
    all_goals first | (simp_all; done) | skip
    all_goals simp
  · simp only [if_true]
    unfold binOp
    split <;> first | (exfalso; simp_all; done) | skip
    all_goals first | (simp_all; done) | skip
    all_goals simp

theorem bbin_run {t : TypeId} (ht : P.underlying t = some .bool) (neq a b : Bool) (x y : Operand) :
    (do eqGuard (if neq then .neq else .eql) t x y (.bool a) (.bool b); binOp (if neq then .neq else .eql) t (.bool a) (.bool b)).run P w = .ok (.bool (if neq then !(a == b) else a == b)) w := by
  rw [eqGuard_at_bool, Sem.run_bind, Sem.run_pure, Result.andThen_ok, run_eql_any neq t _ _ (by simp) (by simp) (by simp) (by simp), run_equal_bool w t a b ht]
  rfl

theorem anil_v {k : NKind} {u : Value} {r : Bool} (h : anil k (.v u) = some r) : r = true ∧ match k with
    | .ptr => u = .pointer none | .slice => ∃ n c, u = .slice none n c | .map => u = .map none | .func => u = .nilFunc | .iface => u = .nilIface := by
  unfold anil at h
  split at h <;> simp_all

theorem nbin_equal {t : TypeId} {d : TypeDesc} (ht : P.underlying t = some d) {z : Value} {k : NKind} (hd : nilD d (.const z) = some k) {x : AV} {u : Value} (hx : VRel e w x u) {r : Bool} (hr : anil k x = some r) :
    (∀ dd, (Op.equalIn (dd + 1) t u z).run P w = .ok r w) ∧ (∀ (op : BinOp) (x : Operand), eqGuard op t x (.const z) u z = pure ()) ∧ (∀ k n, u ≠ .int k n) ∧ (∀ s, u ≠ .string s) ∧ (∀ k n, u ≠ .float k n) ∧ (∀ k n m, u ≠ .complex k n m) := by
  have hu := run_underlying ht w
  cases d <;> cases z <;> (try (simp [nilD] at hd; done))
  case pointer.pointer el a =>
    cases a with
    | some _ => simp [nilD] at hd
    | none =>
    simp only [nilD, Option.some.injEq] at hd
    subst hd
    cases hx with
    | v _ hv =>
      obtain ⟨rfl, hk⟩ := anil_v hr
      have hk : u = _ := hk
      rw [hk]
      exact ⟨fun dd => by simp [Op.equalIn, hu], fun _ _ => eqGuard_at_pointer .., by simp, by simp, by simp, by simp⟩
    | ptr => simp only [anil, Option.some.injEq] at hr; subst hr; exact ⟨fun dd => by simp [Op.equalIn, hu], fun _ _ => eqGuard_at_pointer .., by simp, by simp, by simp, by simp⟩
    | rop => simp only [anil, Option.some.injEq] at hr; subst hr; exact ⟨fun dd => by simp [Op.equalIn, hu], fun _ _ => eqGuard_at_pointer .., by simp, by simp, by simp, by simp⟩
    | _ => simp only [anil] at hr; cases hr
  case slice.slice el a n c =>
    cases a with
    | some _ => simp [nilD] at hd
    | none =>
    simp only [nilD, Option.some.injEq] at hd
    subst hd
    cases hx with
    | v _ hv =>
      obtain ⟨rfl, hk⟩ := anil_v hr
      obtain ⟨n1, c1, hk⟩ := hk
      rw [hk]
      exact ⟨fun dd => by simp [Op.equalIn, hu], fun _ _ => eqGuard_at_slice .., by simp, by simp, by simp, by simp⟩
    | slc => simp only [anil, Option.some.injEq] at hr; subst hr; exact ⟨fun dd => by simp [Op.equalIn, hu], fun _ _ => eqGuard_at_slice .., by simp, by simp, by simp, by simp⟩
    | ro => simp only [anil, Option.some.injEq] at hr; subst hr; exact ⟨fun dd => by simp [Op.equalIn, hu], fun _ _ => eqGuard_at_slice .., by simp, by simp, by simp, by simp⟩
    | _ => simp only [anil] at hr; cases hr
  case map.map k' el a =>
    cases a with
    | some _ => simp [nilD] at hd
    | none =>
    simp only [nilD, Option.some.injEq] at hd
    subst hd
    cases hx with
    | v _ hv =>
      obtain ⟨rfl, hk⟩ := anil_v hr
      have hk : u = _ := hk
      rw [hk]
      exact ⟨fun dd => by simp [Op.equalIn, hu], fun _ _ => eqGuard_at_map .., by simp, by simp, by simp, by simp⟩
    | mp => simp only [anil, Option.some.injEq] at hr; subst hr; exact ⟨fun dd => by simp [Op.equalIn, hu], fun _ _ => eqGuard_at_map .., by simp, by simp, by simp, by simp⟩
    | _ => simp only [anil] at hr; cases hr
  case func.nilFunc =>
    simp only [nilD, Option.some.injEq] at hd
    subst hd
    cases hx with
    | v _ hv =>
      obtain ⟨rfl, hk⟩ := anil_v hr
      have hk : u = _ := hk
      rw [hk]
      exact ⟨fun dd => by simp [Op.equalIn, hu], fun _ _ => eqGuard_at_nilFunc .., by simp, by simp, by simp, by simp⟩
    | fn => simp only [anil, Option.some.injEq] at hr; subst hr; exact ⟨fun dd => by simp [Op.equalIn, hu], fun _ _ => eqGuard_at_func .., by simp, by simp, by simp, by simp⟩
    | _ => simp only [anil] at hr; cases hr
  case interface.nilIface =>
    simp only [nilD, Option.some.injEq] at hd
    subst hd
    cases hx with
    | v _ hv =>
      obtain ⟨rfl, hk⟩ := anil_v hr
      have hk : u = _ := hk
      rw [hk]
      exact ⟨fun dd => by simp [Op.equalIn, hu], fun _ _ => eqGuard_nil_constR .., by simp, by simp, by simp, by simp⟩
    | ifc => simp only [anil, Option.some.injEq] at hr; subst hr; exact ⟨fun dd => by simp [Op.equalIn, hu], fun _ _ => eqGuard_at_iface .., by simp, by simp, by simp, by simp⟩
    | _ => simp only [anil] at hr; cases hr

end
end Go.Proofs.Ytooaiddfokbffaa.E

/- More operations: structs compared, places, slices, make, append. Conditions: none. -/
set_option linter.unusedVariables false
set_option linter.unusedSimpArgs false
namespace Go.Proofs.Ytooaiddfokbffaa.E
open Go

def fkOf : TypeDesc → Option FK
  | .int _ => some .int
  | .bool => some .bool
  | .string => some .str
  | _ => none

/-- Fields that are plain cells, one behind the other: their kinds. -/
def flatF (P : Program) : Nat → List Field → Option (List FK)
  | _, [] => some []
  | k, f :: fs => if f.offset = k ∧ f.name ≠ "_" then
      match (P.underlying f.type).bind fkOf, flatF P (k + 1) fs with
      | some q, some qs => some (q :: qs)
      | _, _ => none
    else none

section
variable {e : Emb} {w : World} {H : AHeap} {P : Program}

theorem part_one {t : TypeId} {d : TypeDesc} (ht : P.underlying t = some d) (hd : aggD d = false) {cs : Array Value} {i : Nat} {u : Value} (h : cs[i]? = some u) : (part t cs i).run P w = .ok u w := by
  have hagg : (isAgg t).run P w = .ok false w := by
    simp only [isAgg, Sem.run_bind, run_underlying ht, Result.andThen_ok]
    cases d <;> first | rfl | (simp [aggD] at hd)
  simp [part, hagg, h]

theorem part_agg {t : TypeId} {d : TypeDesc} (ht : P.underlying t = some d) (hd : aggD d = true) {n : Nat} (hs : tSize P t = some n) {cs : Array Value} {i : Nat} :
    (part t cs i).run P w = .ok (.agg (cs.extract i (i + n))) w := by
  have hagg : (isAgg t).run P w = .ok true w := by
    simp only [isAgg, Sem.run_bind, run_underlying ht, Result.andThen_ok]
    cases d <;> first | rfl | (simp [aggD] at hd)
  simp only [tSize, Option.map_eq_some_iff] at hs
  obtain ⟨j, hj, hsz⟩ := hs
  simp [part, hagg, sizeOf, typeInfo, hj, hsz]

theorem go_part (hH : HRel e H w) {t : TypeId} {d : TypeDesc} (ht : P.underlying t = some d) {n : Nat} (hs : tSize P t = some n) {cs : List AV} {us : Array Value} (hx : LRel e w cs us.toList) {off : Nat}
    (hle : off + n ≤ cs.length) {y : AV} (h : apack (aggD d) ((cs.drop off).take n) = some y) : Goes P (part t us off) e w y H := by
  have hr := (hx.drop off).take n
  have hsz : us.size = cs.length := by rw [← Array.length_toList]; exact hx.1
  rcases apack_rel hr h with ⟨ha, hv⟩ | ⟨ha, v, h1, hv⟩
  · refine .stay hH (part_agg ht ha hs) ?_
    have : us.extract off (off + n) = ((us.toList.drop off).take n).toArray := by
      apply Array.ext'
      simp [List.take_drop]
    rw [this]
    exact hv
  · refine .stay hH (part_one ht ha ?_) hv
    have hl : ((us.toList.drop off).take n)[0]? = some v := by rw [h1]; rfl
    rw [List.getElem?_take] at hl
    split at hl
    · rw [List.getElem?_drop] at hl; simpa using hl
    · cases hl

theorem getD_drop {xs : Array Value} {k : Nat} {a : AV} {azs : List AV} (h : LRel e w (a :: azs) (xs.toList.drop k)) :
    ∃ u, xs[k]? = some u ∧ VRel e w a u ∧ LRel e w azs (xs.toList.drop (k + 1)) := by
  rcases Nat.lt_or_ge k xs.toList.length with hk | hk
  · rw [List.drop_eq_getElem_cons hk] at h
    exact ⟨xs.toList[k], by simp, h.head, h.tail⟩
  · rw [List.drop_eq_nil_of_le hk] at h
    exact absurd h.1 (by simp)

theorem aeqs_run (d : Nat) : ∀ (fs : List Field) (ks : List FK) (k : Nat) (azs bs : List AV) (xs ys : Array Value) (r : Bool), flatF P k fs = some ks → LRel e w azs (xs.toList.drop k) → LRel e w bs (ys.toList.drop k) →
    aeqs ks azs bs = some r → (Op.eqFields (d + 1) xs ys fs).run P w = .ok r w := by
  intro fs
  induction fs with
  | nil =>
    intro ks k azs bs xs ys r hf h1 h2 hr
    simp only [flatF, Option.some.injEq] at hf
    subst hf
    cases azs <;> cases bs <;> simp [aeqs] at hr
    subst hr
    rfl
  | cons f fs ih =>
    intro ks k azs bs xs ys r hf h1 h2 hr
    simp only [flatF] at hf
    split at hf
    case isFalse => cases hf
    rename_i hon
    split at hf
    case h_2 => cases hf
    rename_i q qs hq hqs
    injection hf with hf
    subst hf
    obtain ⟨td, ht, htd⟩ := Option.bind_eq_some_iff.1 hq
    have hagg : aggD td = false := by cases td <;> simp_all [aggD, fkOf]
    have key : ∀ (a b : AV) (azs' bs' : List AV) (u v : Value) (c : Bool), azs = a :: azs' → bs = b :: bs' → xs[k]? = some u → ys[k]? = some v → LRel e w azs' (xs.toList.drop (k + 1)) → LRel e w bs' (ys.toList.drop (k + 1)) →
        (∃ r', aeqs qs azs' bs' = some r' ∧ (c && r') = r) → (Op.equalIn (d + 1) f.type u v).run P w = .ok c w → (Op.eqFields (d + 1) xs ys (f :: fs)).run P w = .ok r w := by
      intro a b azs' bs' u v c _ _ hu hv h3 h4 ⟨r', hr', hc⟩ he
      have hrest := ih qs (k + 1) azs' bs' xs ys r' hqs h3 h4 hr'
      have hp1 := part_one (P := P) (w := w) ht hagg hu
      have hp2 := part_one (P := P) (w := w) ht hagg hv
      subst hc
      simp only [Op.eqFields, hon.1, ne_eq, hon.2, not_false_eq_true, if_true, Sem.run_bind, hp1, hp2, he, Result.andThen_ok]
      cases c
      · simp
      · simpa using hrest
    have inv : ∀ {a b : AV} {azs' bs' : List AV}, azs = a :: azs' → bs = b :: bs' → ∃ u v, xs[k]? = some u ∧ ys[k]? = some v ∧ VRel e w a u ∧ VRel e w b v ∧ LRel e w azs' (xs.toList.drop (k + 1)) ∧ LRel e w bs' (ys.toList.drop (k + 1)) := by
      intro a b azs' bs' ha hb
      subst ha hb
      obtain ⟨u, h3, h4, h5⟩ := getD_drop h1
      obtain ⟨v, h6, h7, h8⟩ := getD_drop h2
      exact ⟨u, v, h3, h6, h4, h7, h5, h8⟩
    unfold aeqs at hr
    split at hr
    · rename_i h; cases h
    · rename_i hk
      injection hk with hk hk'
      subst hk hk'
      split at hr
      case isFalse => cases hr
      rename_i hkk
      subst hkk
      obtain ⟨r', hr', hc⟩ := Option.map_eq_some_iff.1 hr
      obtain ⟨u, v, h3, h4, h5, h6, h7, h8⟩ := inv rfl rfl
      cases h5; cases h6
      cases td <;> simp [fkOf] at htd
      exact key _ _ _ _ _ _ _ rfl rfl h3 h4 h7 h8 ⟨r', hr', hc⟩ (run_equalIn_int w d f.type _ _ _ _ ht)
    · rename_i hk
      injection hk with hk hk'
      subst hk hk'
      obtain ⟨r', hr', hc⟩ := Option.map_eq_some_iff.1 hr
      obtain ⟨u, v, h3, h4, h5, h6, h7, h8⟩ := inv rfl rfl
      cases h5; cases h6
      cases td <;> simp [fkOf] at htd
      exact key _ _ _ _ _ _ _ rfl rfl h3 h4 h7 h8 ⟨r', hr', hc⟩ (run_equalIn_bool w d f.type _ _ ht)
    · rename_i hk
      injection hk with hk hk'
      subst hk hk'
      obtain ⟨r', hr', hc⟩ := Option.map_eq_some_iff.1 hr
      obtain ⟨u, v, h3, h4, h5, h6, h7, h8⟩ := inv rfl rfl
      cases h5; cases h6
      cases td <;> simp [fkOf] at htd
      exact key _ _ _ _ _ _ _ rfl rfl h3 h4 h7 h8 ⟨r', hr', hc⟩ (by rw [run_equalIn_string w d f.type _ _ ht, toList_data, toList_data])
    · cases hr

end
end Go.Proofs.Ytooaiddfokbffaa.E

/- Places, slices, make and append. Conditions: none. -/
set_option linter.unusedVariables false
set_option linter.unusedSimpArgs false
namespace Go.Proofs.Ytooaiddfokbffaa.E
open Go

section
variable {e : Emb} {w : World} {H : AHeap} {P : Program}

theorem ptr_add {b off n c : Nat} (h : e.map b = some c) : VRel e w (.ptr b (off + n)) (.pointer (some ((⟨c, off, none⟩ : Addr).add n))) := by
  rw [addr_add_plain]
  exact .ptr _ _ _ h

theorem rop_add {cells : List AV} {off n : Nat} {a : Addr} {us : List Value} (hn : us.length = cells.length) (hs : ∀ (i : Nat) (u : Value), us[i]? = some u → w.cell? (a.add i) = some u ∧ ¬ e.hits a.block)
    (hr : ∀ (i : Nat) (x : AV) (u : Value), cells[i]? = some x → us[i]? = some u → VRel e w x u) : VRel e w (.rop cells (off + n)) (.pointer (some ((a.add off).add n))) := by
  rw [addr_add_add]
  exact .rop cells (off + n) a us hn hs hr

theorem run_fieldAt {t : TypeId} {fs : Array Field} (ht : P.underlying t = some (.struct fs)) {f : Nat} {fd : Field} (hf : fs[f]? = some fd) {n : Nat} (hs : tSize P fd.type = some (n + 1)) (a : Addr) :
    (Instr.fieldAt t (.pointer (some a)) f).run P w = .ok (.pointer (some (a.add fd.offset))) w := by
  simp only [tSize, Option.map_eq_some_iff] at hs
  obtain ⟨j, hj, hsz⟩ := hs
  simp [Instr.fieldAt, run_underlying ht, hf, Instr.sureAddr, fieldPlace, sizeOf, typeInfo, hj, hsz]

theorem go_fld (hH : HRel e H w) {t : TypeId} {fs : Array Field} (ht : P.underlying t = some (.struct fs)) {f : Nat} {fd : Field} (hf : fs[f]? = some fd) {n : Nat} (hs : tSize P fd.type = some (n + 1))
    {x : AV} {u : Value} (hx : VRel e w x u) {y : AV} (h : afld fd.offset x = some y) : Goes P (Instr.fieldAt t u f) e w y H := by
  cases hx <;> simp only [afld, Option.some.injEq] at h <;> (try (cases h; done))
  case ptr b off c hc => subst h; exact .stay hH (run_fieldAt ht hf hs _) (ptr_add hc)
  case rop cells off a us hn hs' hr => subst h; exact .stay hH (run_fieldAt ht hf hs _) (rop_add hn hs' hr)

theorem run_idx {t el : TypeId} (ht : P.underlying t = some (.slice el)) {es : Nat} (hs : tSize P el = some es) (a : Addr) (len k : Nat) (kd : IntKind) (i : Int) (h : 0 ≤ i ∧ i < len) :
    (Instr.indexAt t (.slice (some a) len k) (.int kd i)).run P w = .ok (.pointer (some (a.add (i.toNat * es)))) w := by
  simp only [tSize, Option.map_eq_some_iff] at hs
  obtain ⟨j, hj, hsz⟩ := hs
  simp [Instr.indexAt, asIntOf, run_underlying ht, h, sizeOf, typeInfo, hj, hsz]

theorem run_idxA {t el : TypeId} {n : Nat} (ht : P.underlying t = some (.array n el)) {es : Nat} (hs : tSize P el = some es) (a : Addr) (kd : IntKind) (i : Int) (h : 0 ≤ i ∧ i < n) :
    (Instr.indexAt t (.pointer (some a)) (.int kd i)).run P w = .ok (.pointer (some (a.add (i.toNat * es)))) w := by
  simp only [tSize, Option.map_eq_some_iff] at hs
  obtain ⟨j, hj, hsz⟩ := hs
  simp [Instr.indexAt, asIntOf, run_underlying ht, h, sizeOf, typeInfo, hj, hsz, Instr.sureAddr]

theorem go_idx (hH : HRel e H w) {t el : TypeId} (ht : P.underlying t = some (.slice el)) {es : Nat} (hs : tSize P el = some es) {x : AV} {u : Value} (hx : VRel e w x u) {kd : IntKind} {i : Int} {y : AV}
    (h : aix es i x = some y) :
    Goes P (Instr.indexAt t u (.int kd i)) e w y H := by
  cases hx <;> simp only [aix] at h <;> (try (cases h; done))
  case slc b off es' len lo ex c k hm hl hlo hc cs t' fr hw hsz =>
    split at h
    · rename_i hi
      injection h with h
      subst h
      exact .stay hH (run_idx ht hs _ len k kd i hi) (ptr_add hm)
    · cases h
  case ro len lo ex cells a k us hl hlo hc hn hs' hr =>
    split at h
    · rename_i hi
      injection h with h
      subst h
      exact .stay hH (run_idx ht hs a len k kd i hi) (.rop cells _ a us hn hs' hr)
    · cases h

theorem go_idxA (hH : HRel e H w) {t el : TypeId} {len : Nat} (ht : P.underlying t = some (.array len el)) {es : Nat} (hs : tSize P el = some es) {x : AV} {u : Value} (hx : VRel e w x u) {kd : IntKind} {i : Int} {y : AV}
    (h : aixA len es i x = some y) :
    Goes P (Instr.indexAt t u (.int kd i)) e w y H := by
  cases hx <;> simp only [aixA] at h <;> (try (cases h; done))
  case ptr b off c hc =>
    split at h
    · rename_i hi
      injection h with h
      subst h
      exact .stay hH (run_idxA ht hs _ kd i hi) (ptr_add hc)
    · cases h
  case rop cells off a us hn hs' hr =>
    split at h
    · rename_i hi
      injection h with h
      subst h
      exact .stay hH (run_idxA ht hs _ kd i hi) (rop_add hn hs' hr)
    · cases h

/-! ### Cutting -/
theorem anat_rel {x : Option AV} {u : Option Value} (hx : (x = none ∧ u = none) ∨ ∃ y v, x = some y ∧ u = some v ∧ VRel e w y v) {r : Option Nat} (h : anat x = some r) :
    (r = none ∧ u = none) ∨ ∃ k n, r = some n ∧ u = some (.int k (n : Int)) := by
  rcases hx with ⟨rfl, rfl⟩ | ⟨y, v, rfl, rfl, hv⟩
  · simp only [anat, Option.some.injEq] at h
    exact .inl ⟨h.symm, rfl⟩
  · unfold anat at h
    split at h
    · rename_i heq; cases heq
    · rename_i k n heq
      split at h
      · rename_i hn
        injection h with h
        injection heq with heq
        subst heq h
        cases hv
        exact .inr ⟨k, n.toNat, rfl, by rw [Int.toNat_of_nonneg hn]⟩
      · cases h
    · cases h

theorem run_bound (k : IntKind) (n y : Nat) (code : BoundsCode) (h : n ≤ y) : (Instr.sliceBound (.int k (n : Int)) y code).run P w = .ok n w := by
  simp [Instr.sliceBound, asIntOf]
  omega

theorem run_bounds {len k L : Nat} {ex : Bool} (hL : L ≤ k) (hex : ex = true → k = L) {lo hi mx : Option Value} {l h m : Option Nat}
    (hlo : (l = none ∧ lo = none) ∨ ∃ kd n, l = some n ∧ lo = some (.int kd (n : Int))) (hhi : (h = none ∧ hi = none) ∨ ∃ kd n, h = some n ∧ hi = some (.int kd (n : Int)))
    (hmx : (m = none ∧ mx = none) ∨ ∃ kd n, m = some n ∧ mx = some (.int kd (n : Int))) {l' h' m' : Nat} {ex' : Bool} (hc : acut L ex len l h m = some (l', h', m', ex')) :
    ∃ M, (Instr.sliceBounds true len k lo hi mx).run P w = .ok (l', h', M) w ∧ l' ≤ h' ∧ h' ≤ M ∧ M ≤ k ∧ m' ≤ M - l' ∧ (ex' = true → M - l' = m') ∧ h' - l' ≤ m' ∧ l' + m' ≤ L := by
  unfold acut at hc
  rcases hmx with ⟨rfl, rfl⟩ | ⟨km, nm, rfl, rfl⟩
  · simp only at hc
    split at hc
    · rename_i hle
      simp only [Option.some.injEq, Prod.mk.injEq] at hc
      obtain ⟨rfl, rfl, rfl, rfl⟩ := hc
      refine ⟨k, ?_, hle.1, by omega, Nat.le_refl _, by omega, fun hx => by rw [hex hx], by omega, by omega⟩
      rcases hhi with ⟨rfl, rfl⟩ | ⟨kh, nh, rfl, rfl⟩ <;> rcases hlo with ⟨rfl, rfl⟩ | ⟨kl, nl, rfl, rfl⟩ <;> simp only [Option.getD_none, Option.getD_some] at hle ⊢
      · simp [Instr.sliceBounds]
      · simp [Instr.sliceBounds, run_bound kl nl len _ hle.1]
      · simp [Instr.sliceBounds, run_bound kh nh k _ (by omega)]
      · simp [Instr.sliceBounds, run_bound kh nh k _ (by omega), run_bound kl nl nh _ hle.1]
    · cases hc
  · rcases hhi with ⟨rfl, rfl⟩ | ⟨kh, nh, rfl, rfl⟩
    · simp at hc
    · simp only at hc
      split at hc
      · rename_i hle
        simp only [Option.some.injEq, Prod.mk.injEq] at hc
        obtain ⟨rfl, rfl, rfl, rfl⟩ := hc
        simp only [Option.getD_some] at hle ⊢
        refine ⟨nm, ?_, hle.1, hle.2.1, by omega, Nat.le_refl _, fun _ => rfl, by omega, by omega⟩
        rcases hlo with ⟨rfl, rfl⟩ | ⟨kl, nl, rfl, rfl⟩ <;> simp only [Option.getD_none, Option.getD_some] at hle ⊢
        · simp [Instr.sliceBounds, run_bound km nm k _ (by omega), run_bound kh nh nm _ hle.2.1]
        · simp [Instr.sliceBounds, run_bound km nm k _ (by omega), run_bound kh nh nm _ hle.2.1, run_bound kl nl nh _ hle.1]
      · cases hc

theorem go_slice (hH : HRel e H w) {t el : TypeId} (ht : P.underlying t = some (.slice el)) {es : Nat} (hs : tSize P el = some es) {x : AV} {u : Value} (hx : VRel e w x u)
    {lo hi mx : Option Value} {l h m : Option Nat}
    (hlo : (l = none ∧ lo = none) ∨ ∃ kd n, l = some n ∧ lo = some (.int kd (n : Int))) (hhi : (h = none ∧ hi = none) ∨ ∃ kd n, h = some n ∧ hi = some (.int kd (n : Int)))
    (hmx : (m = none ∧ mx = none) ∨ ∃ kd n, m = some n ∧ mx = some (.int kd (n : Int))) {y : AV} (hy : aslice es x l h m = some y) : Goes P (Instr.sliceAt t u lo hi mx) e w y H := by
  have hat : ∀ (v : Value), (Instr.sliceAt t v lo hi mx).run P w = (Instr.slice t v lo hi mx).run P w := by
    intro v; simp [Instr.sliceAt, run_underlying ht]
  have hs' := hs
  simp only [tSize, Option.map_eq_some_iff] at hs'
  obtain ⟨j, hj, hsz⟩ := hs'
  have hrun : ∀ (a : Addr) (len k l' h' M : Nat), (Instr.sliceBounds true len k lo hi mx).run P w = .ok (l', h', M) w →
      (Instr.slice t (.slice (some a) len k) lo hi mx).run P w = .ok (.slice (some (if M = l' then a else a.add (l' * es))) (h' - l') (M - l')) w := by
    intro a len k l' h' M hb
    simp only [Instr.slice, Sem.run_bind, run_underlying ht, Result.andThen_ok, hb, sizeOf, typeInfo, run_program, hj, hsz, Sem.run_pure]
    split <;> rfl
  cases hx <;> simp only [aslice] at hy <;> (try (cases hy; done))
  case v hv =>
    split at hy
    · rename_i heq
      injection heq with heq
      split at hy
      · rename_i hz
        injection hy with hy
        subst hy heq
        refine .stay hH (u := .slice none 0 0) ?_ (.v _ rfl)
        rw [hat]
        have hb : (Instr.sliceBounds true 0 0 lo hi mx).run P w = .ok (0, 0, 0) w := by
          rcases hmx with ⟨rfl, rfl⟩ | ⟨km, nm, rfl, rfl⟩ <;> rcases hhi with ⟨rfl, rfl⟩ | ⟨kh, nh, rfl, rfl⟩ <;> rcases hlo with ⟨rfl, rfl⟩ | ⟨kl, nl, rfl, rfl⟩ <;>
            (simp only [Option.getD_none, Option.getD_some] at hz; obtain ⟨h1, h2, h3, h4⟩ := hz; (try subst h1); (try subst h2); (try subst h3)) <;> first | (simp at h4; done) | simp [Instr.sliceBounds, Instr.sliceBound, asIntOf]
        simp only [Instr.slice, Sem.run_bind, run_underlying ht, Result.andThen_ok, hb, sizeOf, typeInfo, run_program, hj, hsz, Sem.run_pure]
        rfl
      · cases hy
    all_goals (first | (cases hy; done) | (rename_i heq; cases heq; done) | skip)
    all_goals simp_all
  case slc b off es' len lo' ex c k hm0 hl hlo' hc cs t' fr hw hsz0 =>
    split at hy
    · rename_i l' h' m' ex' hcut
      split at hy
      · rename_i hes
        subst hes
        obtain ⟨M, h1, h2, h3, h4, h5, h6, h7, h8⟩ := run_bounds (P := P) (w := w) (len := len) (L := max len lo') (k := k) (by omega) (fun hx => by have := hc hx; omega) hlo hhi hmx hcut
        split at hy
        · rename_i hm
          injection hy with hy
          subst hy
          refine .stay hH (by rw [hat, hrun _ len k _ _ _ h1, if_neg (by omega)]) ?_
          rw [addr_add_plain]
          have : l' * es' + (M - l') * es' ≤ k * es' := by rw [← Nat.add_mul]; exact Nat.mul_le_mul_right _ (by omega)
          exact .slc _ _ _ _ _ _ _ _ hm0 (by omega) h5 h6 cs t' fr hw (by omega)
        · rename_i hm
          injection hy with hy
          subst hy
          have e1 : h' - l' = 0 := by omega
          refine .stay hH (by rw [hat, hrun _ len k _ _ _ h1, e1]) ?_
          exact .ro 0 0 ex' [] _ _ [] (by omega) (by omega) (fun hx => by have := h6 hx; omega) rfl (fun i u h => by simp at h) (fun i x u h => by simp at h)
      · cases hy
    · cases hy
  case ro len lo' ex cells a k us hl hlo' hc hn hs'' hr =>
    split at hy
    · rename_i l' h' m' ex' hcut
      obtain ⟨M, h1, h2, h3, h4, h5, h6, h7, h8⟩ := run_bounds (P := P) (w := w) (len := len) (L := max len lo') (k := k) (by omega) (fun hx => by have := hc hx; omega) hlo hhi hmx hcut
      split at hy
      · rename_i hm
        injection hy with hy
        subst hy
        refine .stay hH (by rw [hat, hrun a len k _ _ _ h1, if_neg (by omega)]) ?_
        refine .ro _ _ _ _ _ _ (us.drop (l' * es)) (by omega) h5 h6 (by simp [hn]) (fun i u hu => ?_) fun i x u h1 h2 => ?_
        · rw [List.getElem?_drop] at hu
          rw [addr_add_add, addr_add_block]
          exact hs'' _ u hu
        · rw [List.getElem?_drop] at h1 h2
          exact hr _ x u h1 h2
      · rename_i hm
        injection hy with hy
        subst hy
        have e1 : h' - l' = 0 := by omega
        refine .stay hH (by rw [hat, hrun _ len k _ _ _ h1, e1]) ?_
        exact .ro 0 0 ex' [] _ _ [] (by omega) (by omega) (fun hx => by have := h6 hx; omega) rfl (fun i u h => by simp at h) (fun i x u h => by simp at h)
    · cases hy

end
end Go.Proofs.Ytooaiddfokbffaa.E

/- make, append, lengths. Conditions: none. -/
set_option linter.unusedVariables false
set_option linter.unusedSimpArgs false
namespace Go.Proofs.Ytooaiddfokbffaa.E
open Go

section
variable {e : Emb} {w : World} {H : AHeap} {P : Program}

theorem flatten_replicate_get {α : Type} (z : List α) : ∀ (n i : Nat), i < n * z.length → (List.replicate n z).flatten[i]? = z[i % z.length]? := by
  intro n
  induction n with
  | zero => intro i hi; simp at hi
  | succ n ih =>
    intro i hi
    rw [List.replicate_succ, List.flatten_cons]
    by_cases h : i < z.length
    · rw [List.getElem?_append_left h, Nat.mod_eq_of_lt h]
    · rw [List.getElem?_append_right (by omega), ih _ (by rw [Nat.succ_mul] at hi; omega)]
      congr 1
      rw [← Nat.mod_eq_sub_mod (by omega)]

theorem madeCells_rel {z : List AV} {v : Array Value} (h : LRel e w z v.toList) (n : Nat) (hz : 0 < z.length) : LRel e w (List.replicate n z).flatten (madeCells v (n * z.length)).toList := by
  have hv : v.size = z.length := by rw [← Array.length_toList]; exact h.1
  refine ⟨by simp [madeCells], fun i x u h1 h2 => ?_⟩
  have hi : i < n * z.length := by
    have := (List.getElem?_eq_some_iff.1 h1).1
    simpa using this
  rw [flatten_replicate_get z n i hi] at h1
  have hm : i % z.length < v.size := by rw [hv]; exact Nat.mod_lt _ hz
  have h3 : v.toList[i % z.length]? = some u := by
    simp only [madeCells, Array.toList_map, List.getElem?_map, Array.toList_range] at h2
    rw [List.getElem?_range hi] at h2
    simp only [Option.map_some, Option.some.injEq, hv] at h2
    rw [← h2]
    simp [hm]
  exact h.2 _ x u h1 h3

theorem go_mks (hH : HRel e H w) {t el : TypeId} (ht : P.underlying t = some (.slice el)) {es : Nat} {z : List AV} (hz : tZero P el = some z) {i : TypeInfo} (hi : P.info? el = some i) (hs : i.size = z.length)
    {x y : AV} {ux uy : Value} (hx : VRel e w x ux) (hy : VRel e w y uy) {r : AV} {H' : AHeap} (h : amake z i.bytes H x y = some (r, H')) : Goes P (Instr.makeSlice t ux uy) e w r H' := by
  obtain ⟨i', zv, hi', hzv, hr⟩ := tZero_rel hz
  have : i' = i := by rw [hi] at hi'; injection hi' with hi'; exact hi'.symm
  subst this
  unfold amake at h
  split at h
  · rename_i kl l kc c
    split at h
    · rename_i hle
      simp only [Option.some.injEq, Prod.mk.injEq] at h
      obtain ⟨rfl, rfl⟩ := h
      cases hx
      cases hy
      obtain ⟨h1, h2, h3, h4, h5⟩ := hle
      refine ⟨_, _, e.push w.heap.size, run_make w t el i' zv ht hi hzv kl kc l c h1 h2 h3 h4, hH.allocCells _ _ _ fun j a ha => ?_, ?_, Evo.alloc hH _⟩
      · have hm := madeCells_rel (hr e w) c.toNat h5
        rw [hs]
        obtain ⟨u, h6, h7⟩ := hm.get ha
        exact ⟨u, by simpa using h6, h7⟩
      · rw [← hH.next]
        exact .slc _ _ _ _ _ _ _ _ (by rw [push_map, if_pos rfl]) (by omega) (Nat.le_refl _) (fun _ => rfl) _ _ _ (heap_alloc_new w _) (by simp [size_madeCells, hs])
    · cases h
  · cases h

/-! ### append -/
theorem asrc_rel (hH : HRel e H w) {es : Nat} {x : AV} {u : Value} (hx : VRel e w x u) {n : Nat} {new : List AV} (h : asrc H es x = some (n, new)) :
    ∃ (us : List Value), LRel e w new us ∧ us.length = n * es ∧ ((u = .slice none 0 0 ∧ n = 0) ∨ ∃ a k, u = .slice (some a) n k ∧ ∀ (j : Nat) (v : Value), us[j]? = some v → w.cell? (a.add j) = some v) := by
  cases hx <;> simp only [asrc] at h <;> (try (cases h; done))
  case v hv =>
    split at h
    · rename_i heq
      injection heq with heq
      simp only [Option.some.injEq, Prod.mk.injEq] at h
      obtain ⟨rfl, rfl⟩ := h
      exact ⟨[], LRel.nil, by simp, .inl ⟨heq, rfl⟩⟩
    all_goals (first | (cases h; done) | (rename_i heq; cases heq; done) | skip)
    all_goals simp_all
  case slc b off es' len lo ex c k hm hl hlo hc cs t fr hw hsz =>
    split at h
    · rename_i l hl'
      split at h
      · rename_i hle
        simp only [Option.some.injEq, Prod.mk.injEq] at h
        obtain ⟨rfl, rfl⟩ := h
        have hload : aload H (len * es) (.ptr b off) = some ((l.drop off).take (len * es)) := by simp [aload, hl', hle.2]
        obtain ⟨a', us, h1, h2, h3, h4⟩ := aload_rel hH (VRel.ptr b off c hm) hload
        injection h1 with h1
        injection h1 with h1
        subst h1
        exact ⟨us, h4, h2, .inr ⟨_, k, rfl, h3⟩⟩
      · cases h
    · cases h
  case ro len lo ex cells a k us hl hlo hc hn hs hr =>
    split at h
    · rename_i hle
      simp only [Option.some.injEq, Prod.mk.injEq] at h
      obtain ⟨rfl, rfl⟩ := h
      refine ⟨us.take (len * es), LRel.take ⟨hn, hr⟩ _, by simp; omega, .inr ⟨a, k, rfl, fun j v hj => ?_⟩⟩
      rw [List.getElem?_take] at hj
      split at hj
      · exact (hs j v hj).1
      · cases hj
    · cases h

theorem run_append_in (t ty el : TypeId) (i : TypeInfo) (ht : P.underlying t = some (.slice el)) (hi : P.info? el = some i) (s : Addr) (sLen sCap : Nat) (a : Addr) (m c : Nat) (news : List Value)
    (hl : news.length = m * i.size) (hnews : ∀ (j : Nat) (u : Value), news[j]? = some u → w.cell? (a.add j) = some u) (hroom : sLen + m ≤ sCap) :
    (Builtin.append_ #[t, t] ty #[.slice (some s) sLen sCap, .slice (some a) m c]).run P w =
      ((storeCells (s.add (sLen * i.size)) news).run P w).andThen fun _ w' => .ok (.slice (some s) (sLen + m) sCap) w' := by
  have hf := run_firstCells_some (P := P) w i.size m a m c news hl hnews
  simp [Builtin.append_, run_underlying ht, sizeOf, typeInfo, hi, Builtin.lenOf, hroom, hf]

theorem run_append_none (t ty el : TypeId) (i : TypeInfo) (ht : P.underlying t = some (.slice el)) (hi : P.info? el = some i) (s : Option Addr) (sLen sCap : Nat) (h : sLen ≤ sCap) :
    (Builtin.append_ #[t, t] ty #[.slice s sLen sCap, .slice none 0 0]).run P w = .ok (.slice s sLen sCap) w := by
  cases s <;> simp [Builtin.append_, run_underlying ht, sizeOf, typeInfo, hi, Builtin.lenOf, Builtin.firstCells, h, storeCells]

theorem run_append_zero (t ty el : TypeId) (i : TypeInfo) (ht : P.underlying t = some (.slice el)) (hi : P.info? el = some i) (s : Option Addr) (sLen sCap : Nat) (h : sLen ≤ sCap) (a : Addr) (c : Nat) :
    (Builtin.append_ #[t, t] ty #[.slice s sLen sCap, .slice (some a) 0 c]).run P w = .ok (.slice s sLen sCap) w := by
  cases s <;> simp [Builtin.append_, run_underlying ht, sizeOf, typeInfo, hi, Builtin.lenOf, Builtin.firstCells, h, storeCells, loadCells, loadCellsFrom]

theorem kill_map (e : Emb) (b x : Nat) : (e.kill b).map x = e.map x := rfl
theorem kill_live (e : Emb) (b x : Nat) : (e.kill b).live x = if x = b then false else e.live x := rfl
theorem kill_get (H : AHeap) (b x : Nat) : (H.kill b).get x = if x = b then none else H.get x := rfl

/-- A block is let go. -/
theorem Evo.kill (e : Emb) (w : World) (b : Nat) : Evo e w (e.kill b) w where
  un := fun _ _ h => h
  os := rfl
  output := rfl
  tape := rfl
  size := Nat.le_refl _
  frame := fun _ _ _ => rfl
  next := Nat.le_refl _
  old := fun _ _ h => h
  hits := fun c ⟨x, hx, hl⟩ => by
    rw [kill_live] at hl
    by_cases h : x = b
    · rw [if_pos h] at hl; cases hl
    · rw [if_neg h] at hl; exact .inr ⟨x, hx, hl⟩
  sizes := fun c cs t fr h => ⟨cs, t, fr, h, rfl⟩

theorem HRel.kill (hH : HRel e H w) (b : Nat) : HRel (e.kill b) (H.kill b) w := by
  refine ⟨hH.next, hH.fresh, fun x y c hx hy lx ly => ?_, fun x c hx lx => ?_, fun x o c hq hx => ?_, fun x o hx => ?_, hH.lt⟩
  · rw [kill_live] at lx ly
    by_cases h1 : x = b
    · rw [if_pos h1] at lx; cases lx
    · by_cases h2 : y = b
      · rw [if_pos h2] at ly; cases ly
      · rw [if_neg h1] at lx
        rw [if_neg h2] at ly
        exact hH.inj x y c hx hy lx ly
  · rw [kill_live] at lx
    by_cases h1 : x = b
    · rw [if_pos h1] at lx; cases lx
    · rw [if_neg h1] at lx
      rw [kill_get, if_neg h1]
      exact hH.dom x c hx lx
  · rw [kill_get] at hq
    by_cases h1 : x = b
    · rw [if_pos h1] at hq; cases hq
    · rw [if_neg h1] at hq
      obtain ⟨h2, h3⟩ := hH.obj x o c hq hx
      exact ⟨by rw [kill_live, if_neg h1]; exact h2, h3.evo (Evo.kill e w b) rfl⟩
  · rw [kill_get] at hx
    by_cases h1 : x = b
    · rw [if_pos h1] at hx; cases hx
    · rw [if_neg h1] at hx; exact hH.get x o hx

theorem kp_map (e : Emb) (b c x : Nat) : ((e.kill b).push c).map x = if x = e.next then some c else e.map x := rfl
theorem kp_live (e : Emb) (b c x : Nat) : ((e.kill b).push c).live x = if x = e.next then true else if x = b then false else e.live x := rfl
theorem kn_get (H : AHeap) (b : Nat) (o : AObj) (x : Nat) : ((H.kill b).new o).get x = if x = H.next then some o else if x = b then none else H.get x := rfl

/-- A block of the call's own goes on under a new number, the old one let go. -/
theorem HRel.rename (hH : HRel e H w) {b c : Nat} {ob : AObj} (hb : H.get b = some ob) (hc : e.map b = some c) {o : AObj} (ho : ObjRel e w c o) :
    HRel ((e.kill b).push c) ((H.kill b).new o) w ∧ Evo e w ((e.kill b).push c) w := by
  have hn := hH.next
  have hlb := (hH.obj b ob c hb hc).1
  have hv : Evo e w ((e.kill b).push c) w := by
    refine ⟨⟨rfl, rfl, rfl, Nat.le_refl _, fun _ _ _ => rfl, Nat.le_succ _, fun x c' hx => ?_, fun c' ⟨x, hx, hl⟩ => ?_, fun c cs t fr h => ⟨cs, t, fr, h, rfl⟩⟩, fun x hx hm => by rw [kp_map, if_neg (by omega)]; exact hm⟩
    · rw [kp_map, if_neg (by have := hH.mlt hx; omega)]
      exact hx
    · rw [kp_map] at hx
      rw [kp_live] at hl
      by_cases h1 : x = e.next
      · rw [if_pos h1] at hx
        injection hx with hx
        exact .inr ⟨b, hx ▸ hc, hlb⟩
      · rw [if_neg h1] at hx hl
        by_cases h2 : x = b
        · rw [if_pos h2] at hl; cases hl
        · rw [if_neg h2] at hl; exact .inr ⟨x, hx, hl⟩
  refine ⟨?_, hv⟩
  have hne : ∀ x, x ≠ b → e.live x = true → e.map x ≠ some c := fun x hx hl hxc => hx (hH.inj x b c hxc hc hl hlb)
  refine ⟨by simp [Emb.push, AHeap.new, Emb.kill, AHeap.kill, hH.next], fun x hx => ?_, fun x y c' hx hy lx ly => ?_, fun x c' hx lx => ?_, fun x o' c' hq hx => ?_, fun x o' hx => ?_, fun x c' hx => ?_⟩
  · have hx' : H.next + 1 ≤ x := hx
    rw [kp_map, if_neg (by omega)]
    exact hH.fresh x (by omega)
  · rw [kp_map] at hx hy
    rw [kp_live] at lx ly
    by_cases h1 : x = e.next <;> by_cases h2 : y = e.next
    · omega
    · rw [if_pos h1] at hx
      rw [if_neg h2] at hy ly
      by_cases h3 : y = b
      · rw [if_pos h3] at ly; cases ly
      · rw [if_neg h3] at ly
        injection hx with hx
        exact absurd (hx ▸ hy) (hne y h3 ly)
    · rw [if_pos h2] at hy
      rw [if_neg h1] at hx lx
      by_cases h3 : x = b
      · rw [if_pos h3] at lx; cases lx
      · rw [if_neg h3] at lx
        injection hy with hy
        exact absurd (hy ▸ hx) (hne x h3 lx)
    · rw [if_neg h1] at hx lx
      rw [if_neg h2] at hy ly
      by_cases h3 : x = b
      · rw [if_pos h3] at lx; cases lx
      · by_cases h4 : y = b
        · rw [if_pos h4] at ly; cases ly
        · rw [if_neg h3] at lx
          rw [if_neg h4] at ly
          exact hH.inj x y c' hx hy lx ly
  · rw [kp_map] at hx
    rw [kp_live] at lx
    rw [kn_get]
    by_cases h1 : x = e.next
    · rw [if_pos (by omega)]; exact ⟨o, rfl⟩
    · rw [if_neg h1] at hx lx
      rw [if_neg (by omega)]
      by_cases h2 : x = b
      · rw [if_pos h2] at lx; cases lx
      · rw [if_neg h2] at lx ⊢
        exact hH.dom x c' hx lx
  · rw [kn_get] at hq
    rw [kp_map] at hx
    rw [kp_live]
    by_cases h1 : x = H.next
    · rw [if_pos h1] at hq
      rw [if_pos (by omega)] at hx
      injection hq with hq
      injection hx with hx
      subst hq hx
      exact ⟨by rw [if_pos (by omega)], ho.evo hv rfl⟩
    · rw [if_neg h1] at hq
      rw [if_neg (by omega)] at hx
      by_cases h2 : x = b
      · rw [if_pos h2] at hq; cases hq
      · rw [if_neg h2] at hq
        obtain ⟨h3, h4⟩ := hH.obj x o' c' hq hx
        exact ⟨by rw [if_neg (by omega), if_neg h2]; exact h3, h4.evo hv rfl⟩
  · show x < H.next + 1
    rw [kn_get] at hx
    by_cases h1 : x = H.next
    · omega
    · rw [if_neg h1] at hx
      by_cases h2 : x = b
      · rw [if_pos h2] at hx; cases hx
      · rw [if_neg h2] at hx; have := hH.get x o' hx; omega
  · rw [kp_map] at hx
    by_cases h1 : x = e.next
    · rw [if_pos h1] at hx; injection hx with hx; exact hx ▸ hH.lt b c hc
    · rw [if_neg h1] at hx; exact hH.lt x c' hx

end
end Go.Proofs.Ytooaiddfokbffaa.E

/- append, of whatever the abstract one takes. Conditions: none. -/
set_option linter.unusedVariables false
set_option linter.unusedSimpArgs false
namespace Go.Proofs.Ytooaiddfokbffaa.E
open Go

section
variable {e : Emb} {w : World} {H : AHeap} {P : Program}

theorem setRow_rel (hH : HRel e H w) {b c : Nat} {l : List AV} (hb : H.get b = some (.cells l)) (hc : e.map b = some c) {cs cs' : Array Value} {t : TypeId} (hw : w.heap[c]? = some (.cells cs t (0, 0)))
    (hs : cs'.size = cs.size) (hp : ∀ (i : Nat), i < l.length → cs'[i]? = cs[i]?) : HRel e H (w.setRow c cs') ∧ Evo e w e (w.setRow c cs') ∧ (w.setRow c cs').heap[c]? = some (.cells cs' t (0, 0)) := by
  have hother : ∀ c', c' ≠ c → (w.setRow c cs').heap[c']? = w.heap[c']? := by
    intro c' hne
    show (w.heap.modify c _)[c']? = _
    rw [Array.getElem?_modify, if_neg (fun h => hne h.symm)]
  have hsame : (w.setRow c cs').heap[c]? = some (.cells cs' t (0, 0)) := by
    show (w.heap.modify c _)[c]? = _
    rw [Array.getElem?_modify, if_pos rfl, hw]
    rfl
  obtain ⟨hlive, ds, t', h3, h4⟩ := hH.obj b _ c hb hc
  have hv : Evo e w e (w.setRow c cs') := by
    refine ⟨⟨rfl, rfl, rfl, by simp [World.setRow], fun c' _ hn => hother c' fun h => hn (h ▸ ⟨b, hc, hlive⟩), Nat.le_refl _, fun _ _ h => h, fun _ h => .inr h, fun c' ds t' fr hd => ?_⟩, fun _ _ h => h⟩
    by_cases h : c' = c
    · subst h
      rw [hw] at hd
      injection hd with hd
      injection hd with h1 h2 h3
      exact ⟨cs', t, (0, 0), hsame, by rw [hs, h1]⟩
    · exact ⟨ds, t', fr, by rw [hother c' h]; exact hd, rfl⟩
  rw [hw] at h3
  injection h3 with h3
  injection h3 with h5 h6 h7
  subst h5 h6
  have hobj : ObjRel e (w.setRow c cs') c (.cells l) := ⟨cs', t, hsame, fun i y hy => by
    obtain ⟨u, h8, h9⟩ := h4 i y hy
    exact ⟨u, by rw [hp i (List.getElem?_eq_some_iff.1 hy).1]; exact h8, h9.evo hv⟩⟩
  refine ⟨?_, hv, hsame⟩
  have := hH.turn hb hc hv hother hobj
  rwa [AHeap.set_self hb] at this

theorem oneCell_all {xs : List AV} {us : List Value} (h : LRel e w xs us) (ho : xs.all AV.one = true) : ∀ u ∈ us, u.oneCell' = true := by
  intro u hu
  obtain ⟨i, hi, rfl⟩ := List.mem_iff_getElem.1 hu
  have hi' : i < xs.length := by rw [← h.1]; exact hi
  refine (h.2 i xs[i] us[i] (List.getElem?_eq_getElem hi') (List.getElem?_eq_getElem hi)).one ?_
  rw [List.all_eq_true] at ho
  exact ho _ (List.getElem_mem hi')

/-- What a grown slice is. -/
theorem grown_rel (hH : HRel e H w) (el : TypeId) {es n k : Nat} {xs : List AV} {us : List Value} (hx : LRel e w xs us) (hl : us.length = n * es) (hk : n ≤ k) (z : Array Value) (hz : z.size = es) :
    HRel (e.push w.heap.size) (H.new (.cells xs)) (w.drew.alloc (.cells (us.toArray ++ Builtin.zeroCells z (k - n)) el)) ∧
    VRel (e.push w.heap.size) (w.drew.alloc (.cells (us.toArray ++ Builtin.zeroCells z (k - n)) el)) (.slc H.next 0 es n n false) (.slice (some ⟨w.heap.size, 0, none⟩) n k) ∧
    Evo e w (e.push w.heap.size) (w.drew.alloc (.cells (us.toArray ++ Builtin.zeroCells z (k - n)) el)) := by
  have hd := hH.drew
  have hev := (Evo.drew e w).trans (Evo.alloc hd (.cells (us.toArray ++ Builtin.zeroCells z (k - n)) el))
  refine ⟨hd.allocCells xs _ el fun i x hx' => ?_, ?_, hev⟩
  · obtain ⟨u, h1, h2⟩ := hx.get hx'
    refine ⟨u, ?_, h2.evo (Evo.drew e w)⟩
    rw [Array.getElem?_append_left (by simpa using (List.getElem?_eq_some_iff.1 h1).1)]
    simpa using h1
  · rw [← hH.next]
    refine .slc _ _ _ _ _ _ _ _ (by rw [push_map, if_pos rfl]) hk hk (by simp) _ _ _ (heap_alloc_new w.drew _) ?_
    simp only [Array.size_append, List.size_toArray, size_zeroCells, hz, hl, ← Nat.add_mul]
    rw [show n + (k - n) = k by omega]
    omega

theorem go_append (hH : HRel e H w) {t el ty : TypeId} (ht : P.underlying t = some (.slice el)) {i : TypeInfo} (hi : P.info? el = some i) {z : Value} (hz : i.zero = some z) (hzs : z.cells.size = i.size)
    {s x : AV} {us ux : Value} (hs : VRel e w s us) (hx : VRel e w x ux) {r : AV} {H' : AHeap} (h : aappend H i.size i.bytes s x = some (r, H')) : Goes P (Builtin.append_ #[t, t] ty #[us, ux]) e w r H' := by
  unfold aappend at h
  split at h
  · cases h
  rename_i n new hsrc
  obtain ⟨news, hnew, hnl, hshape⟩ := asrc_rel hH hx hsrc
  split at h
  · cases h
  rename_i hone
  have hone' : new.all AV.one = true ∧ i.size ≠ 0 := by
    refine ⟨?_, fun h0 => hone (.inr h0)⟩
    cases hh : new.all AV.one with
    | true => rfl
    | false => exact absurd (.inl hh) hone
  have zero : ∀ (sl : Option Addr) (len k : Nat), len ≤ k → n = 0 → us = .slice sl len k → (Builtin.append_ #[t, t] ty #[us, ux]).run P w = .ok us w := by
    intro sl len k hk h0 hus
    subst hus h0
    rcases hshape with ⟨rfl, _⟩ | ⟨a, c, rfl, _⟩
    · exact run_append_none t ty el i ht hi sl len k hk
    · exact run_append_zero t ty el i ht hi sl len k hk a c
  cases hs <;> (try simp only at h) <;> (try (cases h; done))
  case v hv =>
    split at h
    · rename_i heq
      injection heq with heq
      subst heq
      split at h
      · rename_i h0
        simp only [Option.some.injEq, Prod.mk.injEq] at h
        obtain ⟨rfl, rfl⟩ := h
        exact .stay hH (zero none 0 0 (Nat.le_refl _) h0 rfl) (.v _ rfl)
      · rename_i h0
        split at h
        · rename_i hb
          simp only [Option.some.injEq, Prod.mk.injEq] at h
          obtain ⟨rfl, rfl⟩ := h
          rcases hshape with ⟨_, h1⟩ | ⟨a, c, rfl, hc⟩
          · exact absurd h1 h0
          have hrun := run_append_nil (P := P) w t ty el i z ht hi hz a n c news hnl hc (by omega) (by omega) (by omega)
          obtain ⟨h1, h2, h3⟩ := grown_rel hH el hnew hnl (grownCap_ge w n 0 el) z.cells hzs
          exact ⟨_, _, _, hrun, h1, h2, h3⟩
        · cases h
    all_goals (first | (cases h; done) | (rename_i heq; cases heq; done) | skip)
    all_goals simp_all
  case ro len lo ex cells a0 k us0 hl hlo hc hn hs' hr =>
    split at h
    · rename_i hcond
      simp only [Option.some.injEq, Prod.mk.injEq] at h
      obtain ⟨rfl, rfl⟩ := h
      obtain ⟨c1, c2, c3, c4, c5⟩ := hcond
      have hk := hc c1
      rcases hshape with ⟨_, h1⟩ | ⟨a, c, rfl, hcc⟩
      · omega
      have hold : LRel e w (cells.take (len * i.size)) (us0.take (len * i.size)) := LRel.take ⟨hn, hr⟩ _
      have hrun := run_append_grow (P := P) w t ty el i z ht hi hz a0 len k (us0.take (len * i.size)) (by simp; omega) (fun j v hj => by
        rw [List.getElem?_take] at hj
        split at hj
        · exact (hs' j v hj).1
        · cases hj) a n c news hnl hcc (by omega) (by omega) (growslice_fits (by omega) c4)
      obtain ⟨h1, h2, h3⟩ := grown_rel hH el (hold.append hnew) (by simp [hnl, Nat.add_mul]; omega) (grownCap_ge w (len + n) k el) z.cells hzs
      refine ⟨_, _, e.push w.heap.size, hrun, ?_, ?_, ?_⟩
      · simpa [List.append_assoc] using h1
      · simpa [List.append_assoc] using h2
      · simpa [List.append_assoc] using h3
    · split at h
      · rename_i h0
        simp only [Option.some.injEq, Prod.mk.injEq] at h
        obtain ⟨rfl, rfl⟩ := h
        exact .stay hH (zero (some a0) len k hl h0 rfl) (.ro len lo ex cells a0 k us0 hl hlo hc hn hs' hr)
      · cases h
  case slc b off es' len lo ex c0 k hc0 hl hlo hc cs1 t1 fr1 hw1 hsz1 =>
    split at h
    case h_2 => cases h
    rename_i l hget
    split at h
    case isFalse => cases h
    rename_i hfit
    obtain ⟨f1, f2⟩ := hfit
    subst f1
    obtain ⟨hlive, cs, t0, hw0, hcells⟩ := hH.obj b _ c0 hget hc0
    have hw1' := hw1
    rw [hw0] at hw1'
    injection hw1' with hw1'
    injection hw1' with e1 e2 e3
    subst e1 e2
    split at h
    · rename_i h0
      simp only [Option.some.injEq, Prod.mk.injEq] at h
      obtain ⟨rfl, rfl⟩ := h
      exact .stay hH (zero _ len k hl h0 rfl) (.slc b off i.size len lo ex _ k hc0 hl hlo hc _ _ _ hw1 hsz1)
    rename_i h0
    rcases hshape with ⟨_, h1⟩ | ⟨a, c, rfl, hcc⟩
    · exact absurd h1 h0
    split at h
    · rename_i hin
      split at h
      case isFalse => cases h
      rename_i hroom
      simp only [Option.some.injEq, Prod.mk.injEq] at h
      obtain ⟨rfl, rfl⟩ := h
      have hrun := run_append_in (P := P) (w := w) t ty el i ht hi ⟨c0, off, none⟩ len k a n c news hnl hcc (by omega)
      have hnewlen : new.length = n * i.size := by rw [← hnew.1]; exact hnl
      have hmul : (len + n) * i.size = len * i.size + n * i.size := Nat.add_mul ..
      obtain ⟨w', h1, h2, h3⟩ := storeCells_rel (P := P) (off := off + len * i.size) new news 0 l w H hH hget hc0 hnew hone'.1 (by omega)
      rw [addr_add_plain, h1, Result.andThen_ok] at hrun
      refine ⟨_, w', e, hrun, by simpa using h2, ?_, h3⟩
      obtain ⟨cs', t', fr', h4, h5⟩ := h3.sizes _ _ _ _ hw0
      exact .slc _ _ _ _ _ _ _ _ hc0 (by omega) hlo hc cs' t' fr' h4 (by omega)
    rename_i hin
    split at h
    case isFalse => cases h
    rename_i hbound
    have hold : aload H (len * i.size) (.ptr b off) = some ((l.drop off).take (len * i.size)) := by simp [aload, hget, f2]
    obtain ⟨a', olds, g1, g2, g3, g4⟩ := aload_rel hH (VRel.ptr b off c0 hc0) hold
    injection g1 with g1
    injection g1 with g1
    subst g1
    have grow : k < len + n → Goes P (Builtin.append_ #[t, t] ty #[.slice (some ⟨c0, off, none⟩) len k, .slice (some a) n c]) e w (.slc H.next 0 i.size (len + n) (len + n) false) (H.new (.cells ((l.drop off).take (len * i.size) ++ new))) := by
      intro hk
      have hrun := run_append_grow (P := P) w t ty el i z ht hi hz ⟨c0, off, none⟩ len k olds g2 g3 a n c news hnl hcc hk (by omega) (growslice_fits hk hbound.1)
      obtain ⟨h1, h2, h3⟩ := grown_rel hH el (g4.append hnew) (by simp [hnl, g2, Nat.add_mul]) (grownCap_ge w (len + n) k el) z.cells hzs
      refine ⟨_, _, e.push w.heap.size, hrun, ?_, ?_, ?_⟩
      · simpa [List.append_assoc] using h1
      · simpa [List.append_assoc] using h2
      · simpa [List.append_assoc] using h3
    split at h
    · rename_i hex
      simp only [Option.some.injEq, Prod.mk.injEq] at h
      obtain ⟨rfl, rfl⟩ := h
      exact grow (by have := hc hex; omega)
    rename_i hex
    split at h
    case isFalse => cases h
    rename_i hend
    obtain ⟨ho, hll⟩ := hend
    subst ho
    simp only [Option.some.injEq, Prod.mk.injEq] at h
    obtain ⟨rfl, rfl⟩ := h
    have hcut : (l.drop 0).take (len * i.size) = l := by rw [List.drop_zero, ← hll, List.take_length]
    by_cases hk : k < len + n
    · obtain ⟨u, w', e', h1, h2, h3, h4⟩ := grow hk
      rw [hcut] at h2
      have hkill := h2.kill b
      refine ⟨u, w', e'.kill b, h1, ?_, h3.evo (Evo.kill e' w' b), h4.trans (Evo.kill e' w' b)⟩
      have hbn : b < H.next := hH.blt hget
      have : (H.new (.cells (l ++ new))).kill b = (H.kill b).new (.cells (l ++ new)) := by
        unfold AHeap.kill AHeap.new
        congr
        funext x
        dsimp only
        by_cases q1 : x = b
        · rw [if_pos q1, if_neg (by omega), if_pos q1]
        · rw [if_neg q1]
          by_cases q2 : x = H.next
          · rw [if_pos q2, if_pos q2]
          · rw [if_neg q2, if_neg q2, if_neg q1]
      rw [← this]
      exact hkill
    · have hrun := run_append_in (P := P) (w := w) t ty el i ht hi ⟨c0, 0, none⟩ len k a n c news hnl hcc (by omega)
      have hmul : (len + n) * i.size = len * i.size + n * i.size := Nat.add_mul ..
      have hkm : (len + n) * i.size ≤ k * i.size := Nat.mul_le_mul_right _ (by omega)
      have hst := run_storeCells_at P c0 (len * i.size) t0 news 0 cs w hw0 (by omega) (oneCell_all hnew hone'.1)
      rw [addr_add_plain] at hrun
      rw [show (0 : Nat) + len * i.size = len * i.size by omega, hst, Result.andThen_ok] at hrun
      simp only [Nat.add_zero] at hrun
      have hsz : ((cs.toList.take (len * i.size) ++ news ++ cs.toList.drop (len * i.size + news.length)).toArray).size = cs.size := by
        simp; omega
      obtain ⟨h1, h2, h3⟩ := setRow_rel hH hget hc0 hw0 (cs' := (cs.toList.take (len * i.size) ++ news ++ cs.toList.drop (len * i.size + news.length)).toArray) hsz (fun j hj => by
        simp only [List.append_assoc, List.getElem?_toArray]
        rw [List.getElem?_append_left (by simp; omega), List.getElem?_take, if_pos (by omega)]
        simp)
      have hnewlen : new.length = n * i.size := by rw [← hnew.1]; exact hnl
      have hobj : ObjRel e (w.setRow c0 (cs.toList.take (len * i.size) ++ news ++ cs.toList.drop (len * i.size + news.length)).toArray) c0 (.cells (l ++ new)) := by
        refine ⟨_, t0, h3, fun j y hy => ?_⟩
        have hg : ((cs.toList.take (len * i.size) ++ news ++ cs.toList.drop (len * i.size + news.length)).toArray)[j]? = (cs.toList.take (len * i.size) ++ (news ++ cs.toList.drop (len * i.size + news.length)))[j]? := by
          simp only [List.append_assoc, List.getElem?_toArray]
        by_cases hj : j < l.length
        · rw [List.getElem?_append_left hj] at hy
          obtain ⟨u, q1, q2⟩ := hcells j y hy
          exact ⟨u, by rw [hg, List.getElem?_append_left (by simp; omega), List.getElem?_take, if_pos (by omega)]; simpa using q1, q2.evo h2⟩
        · rw [List.getElem?_append_right (by omega)] at hy
          obtain ⟨u, q1, q2⟩ := hnew.get hy
          have hj' := (List.getElem?_eq_some_iff.1 q1).1
          refine ⟨u, ?_, q2.evo h2⟩
          rw [hg, List.getElem?_append_right (by simp; omega), List.getElem?_append_left (by simp; omega)]
          rw [← q1]
          congr 1
          simp
          omega
      obtain ⟨h4, h5⟩ := HRel.rename h1 hget hc0 hobj
      refine ⟨_, _, _, hrun, h4, ?_, h2.trans h5⟩
      rw [← hH.next]
      exact .slc _ _ _ _ _ _ _ _ (by rw [kp_map, if_pos rfl]) (by omega) (by omega) (by simp) _ t0 (0, 0) h3 (by rw [hsz]; omega)

end
end Go.Proofs.Ytooaiddfokbffaa.E

/- Which operations are taken, and that the model's step follows the abstract one. Conditions: none. -/
set_option linter.unusedVariables false
set_option linter.unusedSimpArgs false
namespace Go.Proofs.Ytooaiddfokbffaa.E
open Go

def compParts (f : Nat → Option (Nat × Nat)) : List (Nat × Operand) → Option (List (Nat × Nat × AArg))
  | [] => some []
  | (i, x) :: r => match f i, carg x, compParts f r with
    | some (o, n), some y, some r' => some ((o, n, y) :: r')
    | _, _, _ => none

def compArgs : List Operand → Option (List AArg)
  | [] => some []
  | x :: r => match carg x, compArgs r with
    | some y, some r' => some (y :: r')
    | _, _ => none

def fieldPl (P : Program) (fs : Array Field) (i : Nat) : Option (Nat × Nat) :=
  match fs[i]? with
  | some fd => (tSize P fd.type).map fun n => (fd.offset, n)
  | none => none

def compBin (P : Program) (op : BinOp) (t : TypeId) (x y : Operand) : Option AOp :=
  match P.underlying t, carg x, carg y with
  | some (.int _), some a, some b => some (.ibin op a b)
  | some .string, some a, some b => some (.sbin op a b)
  | some .bool, some a, some b => match op with
    | .eql => some (.bbin false a b)
    | .neq => some (.bbin true a b)
    | _ => none
  | some (.struct fs), some a, some b => match flatF P 0 fs.toList, op with
    | some ks, .eql => if P.stoodInHeld t = false ∧ P.eqGuardType P.depth t = false then some (.ebin false ks a b) else none
    | some ks, .neq => if P.stoodInHeld t = false ∧ P.eqGuardType P.depth t = false then some (.ebin true ks a b) else none
    | _, _ => none
  | some d, some a, _ => match nilD d y, op with
    | some k, .eql => some (.nbin false k a)
    | some k, .neq => some (.nbin true k a)
    | _, _ => none
  | _, _, _ => none

def compCall (P : Program) (c : Call) : Option AOp :=
  match c.callee, c.args.toList, c.argTypes.toList with
  | .builtin .len, [x], [t] => match P.underlying t, carg x with
    | some .string, some a => some (.len .str a)
    | some (.slice _), some a => some (.len .slice a)
    | some (.map _ _), some a => some (.len .map a)
    | _, _ => none
  | .builtin .append, [s, x], [t, t'] => match P.underlying t, carg s, carg x with
    | some (.slice el), some a, some b => match P.info? el, tZero P el with
      | some i, some z => if t = t' ∧ z.length = i.size then some (.append i.size i.bytes a b) else none
      | _, _ => none
    | _, _, _ => none
  | .builtin .min, [x, y], _ => match carg x, carg y with
    | some a, some b => some (.mm false a b)
    | _, _ => none
  | .builtin .max, [x, y], _ => match carg x, carg y with
    | some a, some b => some (.mm true a b)
    | _, _ => none
  | _, _, _ => none

def compOp (P : Program) (o : Op) : Option AOp :=
  match o with
  | .move x => (carg x).map .move
  | .assign x => (carg x).map .move
  | .pick c a b => match carg c, carg a, carg b with
    | some c, some a, some b => some (.pick c a b)
    | _, _, _ => none
  | .alloc t => (tZero P t).map .alloc
  | .box _ x => (carg x).map .box
  | .build t parts => match P.underlying t, tZero P t with
    | some (.struct fs), some z => if fs.all (fun f => (P.info? f.type).isSome) then (compParts (fieldPl P fs) parts.toList).map (.build z) else none
    | some (.array _ el), some z => match tSize P el with
      | some n => (compParts (fun i => some (i * n, n)) parts.toList).map (.build z)
      | none => none
    | _, _ => none
  | .buildSlice t n parts => match P.underlying t with
    | some (.slice el) => match tSize P el, tZero P el with
      | some es, some z => if n * es ≤ 16777216 ∧ z.length = es ∧ 0 < es then (compParts (fun i => some (i * es, es)) parts.toList).map (.buildS es n (List.replicate n z).flatten) else none
      | _, _ => none
    | _ => none
  | .load t a => match P.underlying t, tSize P t with
    | some d, some n => (carg a).map (.load (aggD d) n)
    | _, _ => none
  | .store t a x => match tSize P t, carg a, carg x with
    | some n, some a, some x => some (.store n a x)
    | _, _, _ => none
  | .nilCheck x => (carg x).map .nilchk
  | .binOp op t x y _ => compBin P op t x y
  | .unOp .not _ x => (carg x).map .not
  | .unOp .neg _ x => (carg x).map .neg
  | .convert s d x => match P.underlying s, P.underlying d with
    | some _, some (.int k) => (carg x).map (.conv k)
    | _, _ => none
  | .makeFunc f first captured => match compArgs first.toList, compArgs captured.toList with
    | some a, some b => some (.func f a b)
    | _, _ => none
  | .makeSlice t l c => match P.underlying t with
    | some (.slice el) => match P.info? el, tZero P el with
      | some i, some z => if i.size = z.length then (match carg l, carg c with
        | some l, some c => some (.mks z i.bytes l c)
        | _, _ => none) else none
      | _, _ => none
    | _ => none
  | .slice t x lo hi mx => match P.underlying t, carg x, cargO lo, cargO hi, cargO mx with
    | some (.slice el), some a, some l, some h, some m => (tSize P el).map fun es => .slice es a l h m
    | some .string, some a, some l, some h, some none => some (.sslice a l h)
    | _, _, _, _, _ => none
  | .fieldAddr t x f => match P.underlying t with
    | some (.struct fs) => match fs[f]? with
      | some fd => match tSize P fd.type with
        | some (_ + 1) => (carg x).map (.fld fd.offset)
        | _ => none
      | none => none
    | _ => none
  | .field t x f => match P.underlying t with
    | some (.struct fs) => match fs[f]? with
      | some fd => match P.underlying fd.type, tSize P fd.type with
        | some d, some n => (carg x).map (.part (aggD d) fd.offset n)
        | _, _ => none
      | none => none
    | _ => none
  | .indexAddr t x i => match P.underlying t, carg x, carg i with
    | some (.slice el), some a, some b => (tSize P el).map fun es => .idx es a b
    | some (.array n el), some a, some b => (tSize P el).map fun es => .idxA n es a b
    | _, _, _ => none
  | .index t x i => match P.underlying t, carg x, carg i with
    | some .string, some a, some b => some (.sidx a b)
    | some (.array len el), some a, some b => match P.underlying el, tSize P el with
      | some d, some n => some (.aidx (aggD d) len n a b)
      | _, _ => none
    | _, _, _ => none
  | .extract x i => (carg x).map fun a => .ext a i
  | .call c => compCall P c
  | _ => none

/-- The operation came to a value, or to none that is kept. -/
def Ran (P : Program) (ev : Operand → Value) (o : Oper) (w : World) (u : Value) (w' : World) : Prop :=
  (execOp ev o).run P w = .ok (.value u) w' ∨ ((execOp ev o).run P w = .ok .skip w' ∧ u = undef)

def OpGoes (P : Program) (ev : Operand → Value) (o : Oper) (e : Emb) (w : World) (x : AV) (H' : AHeap) : Prop :=
  ∃ u w' e', Ran P ev o w u w' ∧ HRel e' H' w' ∧ VRel e' w' x u ∧ Evo e w e' w'

theorem OpGoes.of {P : Program} {ev : Operand → Value} {o : Oper} {e : Emb} {w : World} {x : AV} {H' : AHeap} {s : Sem Value} (h : Goes P s e w x H')
    (he : ∀ u w', s.run P w = .ok u w' → (execOp ev o).run P w = .ok (.value u) w') : OpGoes P ev o e w x H' := by
  obtain ⟨u, w', e', h1, h2, h3, h4⟩ := h
  exact ⟨u, w', e', .inl (he u w' h1), h2, h3, h4⟩

section
variable {e : Emb} {w : World} {H : AHeap} {P : Program} {tm : Nat → AV} {a : Act}

theorem compArgs_rel (hT : TRel e w tm a) : ∀ {xs : List Operand} {ys : List AArg}, compArgs xs = some ys → LRel e w (ys.map (·.ev tm)) (xs.map a.eval) := by
  intro xs
  induction xs with
  | nil => intro ys h; simp only [compArgs, Option.some.injEq] at h; subst h; exact LRel.nil
  | cons x xs ih =>
    intro ys h
    simp only [compArgs] at h
    split at h
    · rename_i y r' h1 h2
      injection h with h
      subst h
      exact LRel.cons (carg_rel hT h1) (ih h2)
    · cases h

theorem compParts_rel (hT : TRel e w tm a) {f : Nat → Option (Nat × Nat)} : ∀ {xs : List (Nat × Operand)} {ys : List (Nat × Nat × AArg)}, compParts f xs = some ys →
    xs.length = ys.length ∧ ∀ (i : Nat) (p : Nat × Nat × AV) (v : Nat × Value), (ys.map fun p => (p.1, p.2.1, p.2.2.ev tm))[i]? = some p → (xs.map fun q => (q.1, a.eval q.2))[i]? = some v → f v.1 = some (p.1, p.2.1) ∧ VRel e w p.2.2 v.2 := by
  intro xs
  induction xs with
  | nil => intro ys h; simp only [compParts, Option.some.injEq] at h; subst h; exact ⟨rfl, fun i p v h => by simp at h⟩
  | cons x xs ih =>
    intro ys h
    obtain ⟨i0, x⟩ := x
    simp only [compParts] at h
    split at h
    · rename_i o n y r' h1 h2 h3
      injection h with h
      subst h
      obtain ⟨h4, h5⟩ := ih h3
      refine ⟨by simp [h4], fun i p v hp hv => ?_⟩
      cases i with
      | zero =>
        simp only [List.map_cons, List.getElem?_cons_zero, Option.some.injEq] at hp hv
        subst hp hv
        exact ⟨h1, carg_rel hT h2⟩
      | succ i => exact h5 i p v (by simpa using hp) (by simpa using hv)
    · cases h

end
end Go.Proofs.Ytooaiddfokbffaa.E

/- The model's operation follows the abstract one: all operations that are taken. Conditions: none. -/
set_option linter.unusedVariables false
set_option linter.unusedSimpArgs false
namespace Go.Proofs.Ytooaiddfokbffaa.E
open Go

section
variable {e : Emb} {w : World} {H : AHeap} {P : Program} {tm : Nat → AV} {a : Act}

theorem sound_bin (hH : HRel e H w) (hT : TRel e w tm a) {op : BinOp} {t : TypeId} {x y : Operand} {ao : AOp} (hc : compBin P op t x y = some ao) {r : AV} {H' : AHeap} (h : aop tm H ao = some (r, H')) :
    Goes P (do eqGuard op t x y (a.eval x) (a.eval y); binOp op t (a.eval x) (a.eval y)) e w r H' := by
  unfold compBin at hc
  split at hc
  · rename_i k x' y' ht hx hy
    injection hc with hc
    subst hc
    have hvx := carg_rel hT hx
    have hvy := carg_rel hT hy
    simp only [aop] at h
    split at h
    · rename_i k1 n1 k2 n2 e1 e2
      rw [e1] at hvx
      rw [e2] at hvy
      generalize a.eval x = u at *
      generalize a.eval y = v at *
      cases hvx
      cases hvy
      split at h
      · rename_i hs
        simp only [Option.map_eq_some_iff, Prod.mk.injEq] at h
        obtain ⟨r', h1, rfl, rfl⟩ := h
        obtain ⟨h2, h3⟩ := ishift_run (P := P) (w := w) (k' := k2) h1 t x y
        exact .stay hH h2 (.v _ h3)
      · split at h
        · rename_i hs hk
          subst hk
          simp only [Option.map_eq_some_iff, Prod.mk.injEq] at h
          obtain ⟨r', h1, rfl, rfl⟩ := h
          obtain ⟨h2, h3⟩ := ibin_run (P := P) (w := w) h1 t x y
          exact .stay hH h2 (.v _ h3)
        · cases h
    · cases h
  · rename_i x' y' ht hx hy
    injection hc with hc
    subst hc
    have hvx := carg_rel hT hx
    have hvy := carg_rel hT hy
    simp only [aop] at h
    split at h
    · rename_i n1 n2 e1 e2
      rw [e1] at hvx
      rw [e2] at hvy
      generalize a.eval x = u at *
      generalize a.eval y = v at *
      cases hvx
      cases hvy
      simp only [Option.map_eq_some_iff, Prod.mk.injEq] at h
      obtain ⟨r', h1, rfl, rfl⟩ := h
      obtain ⟨h2, h3⟩ := sbin_run (P := P) (w := w) h1 t x y
      exact .stay hH h2 (.v _ h3)
    · cases h
  · rename_i x' y' ht hx hy
    have hvx := carg_rel hT hx
    have hvy := carg_rel hT hy
    have key : ∀ neq : Bool, aop tm H (.bbin neq x' y') = some (r, H') → Goes P (do eqGuard (if neq then .neq else .eql) t x y (a.eval x) (a.eval y); binOp (if neq then .neq else .eql) t (a.eval x) (a.eval y)) e w r H' := by
      intro neq h
      simp only [aop] at h
      split at h
      · rename_i n1 n2 e1 e2
        rw [e1] at hvx
        rw [e2] at hvy
        generalize a.eval x = u at *
        generalize a.eval y = v at *
        cases hvx
        cases hvy
        simp only [Option.some.injEq, Prod.mk.injEq] at h
        obtain ⟨rfl, rfl⟩ := h
        exact .stay hH (bbin_run ht neq n1 n2 x y) (.v _ rfl)
      · cases h
    split at hc
    · injection hc with hc
      subst hc
      exact key false h
    · injection hc with hc
      subst hc
      exact key true h
    · cases hc
  · rename_i fs x' y' ht hx hy
    have hvx := carg_rel hT hx
    have hvy := carg_rel hT hy
    have key : ∀ (neq : Bool) (ks : List FK), flatF P 0 fs.toList = some ks → P.stoodInHeld t = false → P.eqGuardType P.depth t = false → aop tm H (.ebin neq ks x' y') = some (r, H') →
        Goes P (do eqGuard (if neq then .neq else .eql) t x y (a.eval x) (a.eval y); binOp (if neq then .neq else .eql) t (a.eval x) (a.eval y)) e w r H' := by
      intro neq ks hf hst hg h
      simp only [aop] at h
      split at h
      · rename_i l1 l2 e1 e2
        rw [e1] at hvx
        rw [e2] at hvy
        generalize a.eval x = u at *
        generalize a.eval y = v at *
        simp only [Option.map_eq_some_iff, Prod.mk.injEq] at h
        obtain ⟨r', h1, rfl, rfl⟩ := h
        cases hvx with
        | agg _ xs hn1 hv1 =>
        cases hvy with
        | agg _ ys hn2 hv2 =>
        have L1 : LRel e w l1 xs.toList := ⟨by simpa using hn1, fun i x u q1 q2 => hv1 i x u q1 (by simpa using q2)⟩
        have L2 : LRel e w l2 ys.toList := ⟨by simpa using hn2, fun i x u q1 q2 => hv2 i x u q1 (by simpa using q2)⟩
        have hq : P.fieldsOf t = fs := by simp [Program.fieldsOf, ht]
        have he : (Op.equalIn 10000 t (.agg xs) (.agg ys)).run P w = .ok r' w := by
          rw [run_equalIn_struct w 9999 t xs ys (by rw [hq]; exact ht) hst, hq]
          exact aeqs_run 9998 fs.toList ks 0 l1 l2 xs ys r' hf (by simpa using L1) (by simpa using L2) h1
        refine .stay hH ?_ (.v _ rfl)
        rw [Sem.run_bind, run_eqGuard_agg w _ t x y xs ys hg, Result.andThen_ok, run_eql_any neq t _ _ (by simp) (by simp) (by simp) (by simp)]
        show ((Op.equalIn 10000 t (.agg xs) (.agg ys)).run P w).andThen _ = _
        rw [he, Result.andThen_ok]
      · cases h
    split at hc
    · rename_i ks hf
      split at hc
      · rename_i hg
        injection hc with hc
        subst hc
        exact key false ks hf hg.1 hg.2 h
      · cases hc
    · rename_i ks hf
      split at hc
      · rename_i hg
        injection hc with hc
        subst hc
        exact key true ks hf hg.1 hg.2 h
      · cases hc
    · cases hc
  · rename_i d x' ht hx hn1 hn2 hn3 hn4
    have hvx := carg_rel hT hx
    have key : ∀ (neq : Bool) (k : NKind), nilD d y = some k → aop tm H (.nbin neq k x') = some (r, H') →
        Goes P (do eqGuard (if neq then .neq else .eql) t x y (a.eval x) (a.eval y); binOp (if neq then .neq else .eql) t (a.eval x) (a.eval y)) e w r H' := by
      intro neq k hk h
      simp only [aop, Option.map_eq_some_iff, Prod.mk.injEq] at h
      obtain ⟨r', h1, rfl, rfl⟩ := h
      have hy : ∃ z, y = .const z := by
        cases y with
        | const z => exact ⟨z, rfl⟩
        | _ => cases d <;> simp [nilD] at hk
      obtain ⟨z, rfl⟩ := hy
      obtain ⟨q1, q2, q3, q4, q5, q6⟩ := nbin_equal ht hk hvx h1
      refine .stay hH ?_ (.v _ rfl)
      show (do eqGuard _ t x (.const z) (a.eval x) z; binOp _ t (a.eval x) z).run P w = _
      rw [q2, Sem.run_bind, Sem.run_pure, Result.andThen_ok, run_eql_any neq t _ _ q3 q4 q5 q6]
      show ((Op.equalIn (9999 + 1) t _ _).run P w).andThen _ = _
      rw [q1 9999, Result.andThen_ok]
    split at hc
    · rename_i k hk
      injection hc with hc
      subst hc
      exact key false k hk h
    · rename_i k hk
      injection hc with hc
      subst hc
      exact key true k hk h
    · cases hc
  · cases hc

end
end Go.Proofs.Ytooaiddfokbffaa.E

/- The model's operation follows the abstract one: builtins, and all together. Conditions: none. -/
set_option linter.unusedVariables false
set_option linter.unusedSimpArgs false
namespace Go.Proofs.Ytooaiddfokbffaa.E
open Go

section
variable {e : Emb} {w : World} {H : AHeap} {P : Program} {tm : Nat → AV} {a : Act}

theorem go_len_str (hH : HRel e H w) {t ty : TypeId} (ht : P.underlying t = some .string) {x : AV} {u : Value} (hx : VRel e w x u) {n : Nat} (h : alen H .str x = some n) : Goes P (Builtin.len_ #[t] ty #[u]) e w (.v (.int .i64 n)) H := by
  unfold alen at h
  split at h <;> first | (cases h; done) | skip
  all_goals (rename_i h1; try (cases h1; done))
  all_goals (try (cases h; done))
  all_goals (injection h with h; subst h; cases hx; exact .stay hH (by simp [Builtin.len_, run_underlying ht, goInt]) (.v _ rfl))

theorem go_len_slice (hH : HRel e H w) {t ty el : TypeId} (ht : P.underlying t = some (.slice el)) {x : AV} {u : Value} (hx : VRel e w x u) {n : Nat} (h : alen H .slice x = some n) : Goes P (Builtin.len_ #[t] ty #[u]) e w (.v (.int .i64 n)) H := by
  cases hx with
  | v _ hv =>
    cases u with
    | slice b l c =>
      cases b with
      | none =>
        simp only [alen] at h
        split at h
        · rename_i hl
          injection h with h
          subst h hl
          exact .stay hH (by simp [Builtin.len_, run_underlying ht, goInt]) (.v _ rfl)
        · cases h
      | some b => simp [alen] at h
    | _ => simp [alen] at h
  | slc => simp only [alen, Option.some.injEq] at h; subst h; exact .stay hH (by simp [Builtin.len_, run_underlying ht, goInt]) (.v _ rfl)
  | ro => simp only [alen, Option.some.injEq] at h; subst h; exact .stay hH (by simp [Builtin.len_, run_underlying ht, goInt]) (.v _ rfl)
  | _ => simp [alen] at h

theorem go_len_map (hH : HRel e H w) {t ty k el : TypeId} (ht : P.underlying t = some (.map k el)) {x : AV} {u : Value} (hx : VRel e w x u) {n : Nat} (h : alen H .map x = some n) : Goes P (Builtin.len_ #[t] ty #[u]) e w (.v (.int .i64 n)) H := by
  cases hx with
  | v _ hv =>
    cases u with
    | map m =>
      cases m with
      | none =>
        simp only [alen, Option.some.injEq] at h
        subst h
        exact .stay hH (by simp [Builtin.len_, run_underlying ht, goInt]) (.v _ rfl)
      | some b => simp [alen] at h
    | _ => simp [alen] at h
  | mp b r hm =>
    simp only [alen] at h
    split at h
    · rename_i es cl hg
      injection h with h
      subst h
      obtain ⟨_, ens, h1, h2, h3⟩ := hH.obj b _ r hg hm
      refine .stay hH ?_ (.v _ rfl)
      simp [Builtin.len_, run_underlying ht, goInt, getObj, Sem.run, h1, h2]
    · cases h
  | _ => simp [alen] at h

theorem go_mm (hH : HRel e H w) (isMax : Bool) (ts : Array TypeId) (ty : TypeId) {x y : AV} {u v : Value} (hx : VRel e w x u) (hy : VRel e w y v) {r : AV} (h : amm isMax x y = some r) :
    Goes P (if isMax then Builtin.max_ ts ty #[u, v] else Builtin.min_ ts ty #[u, v]) e w r H := by
  unfold amm at h
  split at h
  · injection h with h
    subst h
    cases hx
    cases hy
    cases isMax
    · exact .stay hH (by simp [Builtin.min_, Builtin.min2]) (.v _ rfl)
    · exact .stay hH (by simp [Builtin.max_, Builtin.max2]) (.v _ rfl)
  · cases h

theorem sound_call (hH : HRel e H w) (hT : TRel e w tm a) {c : Call} {ao : AOp} (hc : compCall P c = some ao) {r : AV} {H' : AHeap} (h : aop tm H ao = some (r, H')) (o : Oper) (ho : o.op = .call c) : OpGoes P a.eval o e w r H' := by
  obtain ⟨callee, args, argTypes⟩ := c
  have hargs : ∀ l, args.toList = l → args = l.toArray := fun l hl => by rw [← hl]
  have htypes : ∀ l, argTypes.toList = l → argTypes = l.toArray := fun l hl => by rw [← hl]
  unfold compCall at hc
  simp only at hc
  split at hc
  · rename_i x t h1 h2
    have e1 := hargs _ h1
    have e2 := htypes _ h2
    subst e1 e2
    have fin : ∀ {n : Nat}, Goes P (Builtin.len_ #[t] o.type #[a.eval x]) e w (.v (.int .i64 n)) H → OpGoes P a.eval o e w (.v (.int .i64 n)) H := fun hg =>
      .of hg fun u w' hr => by simp [execOp, ho, resolve, invoke, builtin, hr]
    split at hc
    · rename_i x' ht hx
      injection hc with hc
      subst hc
      simp only [aop, Option.map_eq_some_iff, Prod.mk.injEq] at h
      obtain ⟨n, h3, rfl, rfl⟩ := h
      exact fin (go_len_str hH ht (carg_rel hT hx) h3)
    · rename_i el x' ht hx
      injection hc with hc
      subst hc
      simp only [aop, Option.map_eq_some_iff, Prod.mk.injEq] at h
      obtain ⟨n, h3, rfl, rfl⟩ := h
      exact fin (go_len_slice hH ht (carg_rel hT hx) h3)
    · rename_i k el x' ht hx
      injection hc with hc
      subst hc
      simp only [aop, Option.map_eq_some_iff, Prod.mk.injEq] at h
      obtain ⟨n, h3, rfl, rfl⟩ := h
      exact fin (go_len_map hH ht (carg_rel hT hx) h3)
    · cases hc
  · rename_i s x t t' h1 h2
    have e1 := hargs _ h1
    have e2 := htypes _ h2
    subst e1 e2
    split at hc
    case h_2 => cases hc
    rename_i el s' x' ht hs hx
    split at hc
    case h_2 => cases hc
    rename_i i z hi hz
    split at hc
    case isFalse => cases hc
    rename_i hcond
    obtain ⟨rfl, hzl⟩ := hcond
    injection hc with hc
    subst hc
    simp only [aop] at h
    obtain ⟨i', zv, hi', hzv, hzr⟩ := tZero_rel hz
    have : i' = i := by rw [hi] at hi'; injection hi' with hi'; exact hi'.symm
    subst this
    have hzs : zv.cells.size = i'.size := by rw [← Array.length_toList, (hzr e w).1, hzl]
    exact .of (go_append (ty := o.type) hH ht hi hzv hzs (carg_rel hT hs) (carg_rel hT hx) h) fun u w' hr => by simp [execOp, ho, resolve, invoke, builtin, hr]
  · rename_i x y h1
    have e1 := hargs _ h1
    subst e1
    split at hc
    case h_2 => cases hc
    rename_i x' y' hx hy
    injection hc with hc
    subst hc
    simp only [aop, Option.map_eq_some_iff, Prod.mk.injEq] at h
    obtain ⟨r', h3, rfl, rfl⟩ := h
    have hg := go_mm (P := P) hH false argTypes o.type (carg_rel hT hx) (carg_rel hT hy) h3
    exact .of hg fun u w' hr => by
      simp only [Bool.false_eq_true, if_false] at hr
      simp [execOp, ho, resolve, invoke, builtin, hr]
  · rename_i x y h1
    have e1 := hargs _ h1
    subst e1
    split at hc
    case h_2 => cases hc
    rename_i x' y' hx hy
    injection hc with hc
    subst hc
    simp only [aop, Option.map_eq_some_iff, Prod.mk.injEq] at h
    obtain ⟨r', h3, rfl, rfl⟩ := h
    have hg := go_mm (P := P) hH true argTypes o.type (carg_rel hT hx) (carg_rel hT hy) h3
    exact .of hg fun u w' hr => by
      simp only [if_true] at hr
      simp [execOp, ho, resolve, invoke, builtin, hr]
  · cases hc

end
end Go.Proofs.Ytooaiddfokbffaa.E

/- The model's operation follows the abstract one: all operations that are taken, together. Conditions: none. -/
set_option linter.unusedVariables false
set_option linter.unusedSimpArgs false
namespace Go.Proofs.Ytooaiddfokbffaa.E
open Go

section
variable {e : Emb} {w : World} {H : AHeap} {P : Program} {tm : Nat → AV} {a : Act}

theorem go_build (hH : HRel e H w) (hT : TRel e w tm a) {t : TypeId} {z : List AV} (hz : tZero P t = some z) {parts : Array (Nat × Operand)} {f : Nat → Option (Nat × Nat)} {ps : List (Nat × Nat × AArg)}
    (hp : compParts f parts.toList = some ps)
    (hd : (∃ fs, P.underlying t = some (.struct fs) ∧ fs.all (fun f => (P.info? f.type).isSome) = true ∧ f = fieldPl P fs) ∨ (∃ n el m, P.underlying t = some (.array n el) ∧ tSize P el = some m ∧ f = fun i => some (i * m, m)))
    {cs : List AV} (h : afill z (ps.map fun p => (p.1, p.2.1, p.2.2.ev tm)) = some cs) : Goes P (Instr.build t (parts.map fun (i, x) => (i, a.eval x))) e w (.agg cs) H := by
  obtain ⟨i, zv, hi, hzv, hzr⟩ := tZero_rel hz
  obtain ⟨h1, h2⟩ := compParts_rel hT hp
  have hparts : (parts.map fun (x : Nat × Operand) => (x.1, a.eval x.2)).toList = parts.toList.map fun q => (q.1, a.eval q.2) := by simp
  have fin : ∀ (place : Nat → Option (Nat × Nat)), (∀ i v, f i = some v → place i = some v) → ∃ cs', Instr.fill place zv.cells (parts.map fun (x : Nat × Operand) => (x.1, a.eval x.2)).toList = some cs' ∧ VRel e w (.agg cs) (.agg cs') := by
    intro place hpl
    rw [hparts]
    obtain ⟨cs', h3, h4⟩ := fill_rel place _ (parts.toList.map fun q => (q.1, a.eval q.2)) z zv.cells (hzr e w) (by simp [h1]) (fun j p v hp hv => by
      obtain ⟨q1, q2⟩ := h2 j p v hp hv
      exact ⟨hpl _ _ q1, q2⟩) cs h
    exact ⟨cs', h3, .agg _ _ (by have := h4.1; simpa using this) fun j x u q1 q2 => h4.2 j x u q1 (by simpa using q2)⟩
  rcases hd with ⟨fs, ht, hall, rfl⟩ | ⟨n, el, m, ht, hm, rfl⟩
  · have hmap : ∀ (l : List Field), (∀ f ∈ l, (P.info? f.type).isSome = true) → (l.mapM fun f => (do pure (f.offset, ← sizeOf f.type) : Sem (Nat × Nat))).run P w = .ok (l.map fun f => (f.offset, ((P.info? f.type).map (·.size)).getD 0)) w := by
      intro l
      induction l with
      | nil => intro _; rfl
      | cons x l ih =>
        intro hl
        obtain ⟨j, hj⟩ := Option.isSome_iff_exists.1 (hl x (List.mem_cons_self ..))
        have := ih fun f hf => hl f (List.mem_cons_of_mem _ hf)
        simp only [List.mapM_cons, Sem.run_bind, sizeOf, typeInfo, run_program, hj, Result.andThen_ok, Sem.run_pure, List.map_cons, Option.map_some, Option.getD_some] at this ⊢
        rw [this]
        rfl
    have hmapA : (fs.mapM fun f => (do pure (f.offset, ← sizeOf f.type) : Sem (Nat × Nat))).run P w = .ok (fs.map fun f => (f.offset, ((P.info? f.type).map (·.size)).getD 0)) w := by
      have := hmap fs.toList fun f hf => by rw [Array.all_eq_true'] at hall; exact hall f (by simpa using hf)
      rw [Array.mapM_eq_mapM_toList]
      simp only [Sem.run_map, this, Result.andThen_ok]
      rw [← Array.toList_map, Array.toArray_toList]
    obtain ⟨cs', h3, h4⟩ := fin (fun i => (fs.map fun f => (f.offset, ((P.info? f.type).map (·.size)).getD 0))[i]?) (fun i v hv => by
      unfold fieldPl at hv
      split at hv
      · rename_i fd hfd
        simp only [tSize, Option.map_eq_some_iff] at hv
        obtain ⟨s, ⟨j, hj, rfl⟩, rfl⟩ := hv
        simp [hfd, hj]
      · cases hv)
    refine .stay hH (u := .agg cs') ?_ h4
    simp only [Instr.build, Sem.run_bind, zeroValue, typeInfo, run_program, hi, hzv, Result.andThen_ok, Sem.run_pure, run_underlying ht, hmapA, h3]
  · obtain ⟨cs', h3, h4⟩ := fin (fun i => some (i * m, m)) (fun i v hv => hv)
    refine .stay hH (u := .agg cs') ?_ h4
    simp only [tSize, Option.map_eq_some_iff] at hm
    obtain ⟨j, hj, hjs⟩ := hm
    simp only [Instr.build, Sem.run_bind, zeroValue, typeInfo, run_program, hi, hzv, Result.andThen_ok, Sem.run_pure, run_underlying ht, sizeOf, hj, hjs, h3]

theorem afill_length : ∀ (ps : List (Nat × Nat × AV)) (l l' : List AV), afill l ps = some l' → l'.length = l.length := by
  intro ps
  induction ps with
  | nil => intro l l' h; simp only [afill, Option.some.injEq] at h; rw [h]
  | cons p ps ih =>
    intro l l' h
    obtain ⟨o, m, x⟩ := p
    simp only [afill] at h
    split at h
    · rw [ih _ _ h, setL_length]
    · cases h

theorem run_buildS (hT : TRel e w tm a) {t el : TypeId} (ht : P.underlying t = some (.slice el)) {z : List AV} (hz : tZero P el = some z) {es n : Nat} (hs : tSize P el = some es) (hzl : z.length = es) (h0 : 0 < es)
    (hlim : n * es ≤ 16777216) {parts : Array (Nat × Operand)} {ps : List (Nat × Nat × AArg)} (hp : compParts (fun i => some (i * es, es)) parts.toList = some ps)
    {cs : List AV} (h : afill (List.replicate n z).flatten (ps.map fun p => (p.1, p.2.1, p.2.2.ev tm)) = some cs) :
    ∃ cs' : Array Value, (Instr.buildSlice t n (parts.map fun (i, x) => (i, a.eval x))).run P w = .ok (.slice (some ⟨w.heap.size, 0, none⟩) n n) (w.alloc (.cells cs' el)) ∧ LRel e w cs cs'.toList ∧ cs'.size = n * es := by
  obtain ⟨i, zv, hi, hzv, hzr⟩ := tZero_rel hz
  obtain ⟨h1, h2⟩ := compParts_rel hT hp
  have hparts : (parts.map fun (x : Nat × Operand) => (x.1, a.eval x.2)).toList = parts.toList.map fun q => (q.1, a.eval q.2) := by simp
  simp only [tSize, Option.map_eq_some_iff] at hs
  obtain ⟨j, hj, hjs⟩ := hs
  have hji : j = i := by rw [hi] at hj; injection hj with hj; exact hj.symm
  subst hji
  have hm := madeCells_rel (hzr e w) n (by omega)
  rw [hzl] at hm
  obtain ⟨cs', h3, h4⟩ := fill_rel (fun i => some (i * es, es)) _ (parts.toList.map fun q => (q.1, a.eval q.2)) _ (madeCells zv.cells (n * es)) hm (by simp [h1]) (fun j p v hp hv => h2 j p v hp hv) cs h
  refine ⟨cs', ?_, h4, ?_⟩
  · have hnl : ¬ (16777216 < n * es) := by omega
    by_cases hn0 : n * es = 0
    · have hn : n = 0 := by rcases Nat.mul_eq_zero.1 hn0 with h | h <;> omega
      subst hn
      simp only [madeCells, hn0, Array.range_zero', Array.map_empty] at h3
      simp [Instr.buildSlice, run_underlying ht, sizeOf, typeInfo, hi, hjs, hparts, Array.range_zero', h3, newRow]
    · simp [Instr.buildSlice, run_underlying ht, sizeOf, typeInfo, zeroValue, hi, hjs, hzv, hn0, hnl, hparts]
      simp only [madeCells] at h3
      rw [h3]
      simp [newRow]
  · have hl := h4.1
    have := afill_length _ _ _ h
    simp [hzl] at this
    simp at hl
    omega

theorem go_buildS (hH : HRel e H w) (hT : TRel e w tm a) {t el : TypeId} (ht : P.underlying t = some (.slice el)) {z : List AV} (hz : tZero P el = some z) {es n : Nat} (hs : tSize P el = some es) (hzl : z.length = es) (h0 : 0 < es)
    (hlim : n * es ≤ 16777216) {parts : Array (Nat × Operand)} {ps : List (Nat × Nat × AArg)} (hp : compParts (fun i => some (i * es, es)) parts.toList = some ps)
    {cs : List AV} (h : afill (List.replicate n z).flatten (ps.map fun p => (p.1, p.2.1, p.2.2.ev tm)) = some cs) :
    Goes P (Instr.buildSlice t n (parts.map fun (i, x) => (i, a.eval x))) e w (.slc H.next 0 es n n true) (H.new (.cells cs)) := by
  obtain ⟨cs', hr, h4, hsz⟩ := run_buildS (P := P) hT ht hz hs hzl h0 hlim hp h
  refine ⟨_, _, e.push w.heap.size, hr, hH.allocCells _ _ _ fun k x hx => ?_, ?_, Evo.alloc hH _⟩
  · obtain ⟨u, q1, q2⟩ := h4.get hx
    exact ⟨u, by simpa using q1, q2⟩
  · rw [← hH.next]
    exact .slc _ _ _ _ _ _ _ _ (by rw [push_map, if_pos rfl]) (Nat.le_refl _) (Nat.le_refl _) (fun _ => rfl) _ _ _ (heap_alloc_new w _) (by omega)

end
end Go.Proofs.Ytooaiddfokbffaa.E
