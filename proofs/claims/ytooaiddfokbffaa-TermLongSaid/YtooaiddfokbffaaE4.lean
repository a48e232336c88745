/- Each operation that is taken: the model's step follows the abstract one. Conditions: none. -/
import Derived.Test.YtooaiddfokbffaaE3
import Derived.Laws.StructEq
set_option linter.unusedVariables false
set_option linter.unusedSimpArgs false
namespace Go.Proofs.Ytooaiddfokbffaa.E
open Go

/-- A step of the model comes to what the abstract one says. -/
def Goes (P : Program) (s : Sem Value) (e : Emb) (w : World) (x : AV) (H' : AHeap) : Prop :=
  ∃ u w' e', s.run P w = .ok u w' ∧ HRel e' H' w' ∧ VRel e' w' x u ∧ Evo e w e' w'

section
variable {e : Emb} {w : World} {H : AHeap} {P : Program}

theorem Goes.stay {s : Sem Value} {x : AV} {u : Value} (hH : HRel e H w) (hr : s.run P w = .ok u w) (hx : VRel e w x u) : Goes P s e w x H :=
  ⟨u, w, e, hr, hH, hx, Evo.refl e w⟩

theorem tZero_rel {t : TypeId} {l : List AV} (h : tZero P t = some l) : ∃ i z, P.info? t = some i ∧ i.zero = some z ∧ ∀ e w, LRel e w l z.cells.toList := by
  simp only [tZero, Option.bind_eq_some_iff, Option.map_eq_some_iff] at h
  obtain ⟨z, ⟨i, hi, hz⟩, y, hy, rfl⟩ := h
  exact ⟨i, z, hi, hz, fun e w => (cval_rel hy).acells⟩

theorem go_alloc (hH : HRel e H w) {t : TypeId} {z : List AV} (h : tZero P t = some z) : Goes P (Instr.alloc t true (.tuple #[])) e w (.ptr H.next 0) (H.new (.cells z)) := by
  obtain ⟨i, v, hi, hz, hr⟩ := tZero_rel h
  refine ⟨.pointer (some ⟨w.heap.size, 0, none⟩), w.alloc (.cells v.cells t), e.push w.heap.size, ?_, hH.allocCells z v.cells t ?_, ?_, Evo.alloc hH _⟩
  · simp [Instr.alloc, zeroValue, typeInfo, hi, hz, newVar, newRow]
  · intro j x hx
    obtain ⟨u, h1, h2⟩ := (hr e w).get hx
    exact ⟨u, by simpa using h1, h2⟩
  · rw [← hH.next]; exact VRel.new_ptr _ _ _

theorem go_box (hH : HRel e H w) (t : TypeId) {x : AV} {u : Value} (hx : VRel e w x u) : Goes P (Instr.box t u) e w (.ptr H.next 0) (H.new (.cells x.acells)) := by
  refine ⟨.pointer (some ⟨w.heap.size, 0, none⟩), w.alloc (.cells u.cells t), e.push w.heap.size, ?_, hH.allocCells _ u.cells t ?_, ?_, Evo.alloc hH _⟩
  · simp [Instr.box, newVar, newRow]
  · intro j x hx'
    obtain ⟨v, h1, h2⟩ := hx.acells.get hx'
    exact ⟨v, by simpa using h1, h2⟩
  · rw [← hH.next]; exact VRel.new_ptr _ _ _

theorem go_load (hH : HRel e H w) {t : TypeId} {d : TypeDesc} (ht : P.underlying t = some d) {n : Nat} (hs : tSize P t = some n) {x : AV} {u : Value} (hx : VRel e w x u) {y : AV}
    (h : (aload H n x).bind (apack (aggD d)) = some y) : Goes P (Instr.loadAt t u) e w y H := by
  obtain ⟨cs, h1, h2⟩ := Option.bind_eq_some_iff.1 h
  obtain ⟨a, us, rfl, hl, hc, hr⟩ := aload_rel hH hx h1
  rcases apack_rel hr h2 with ⟨ha, hv⟩ | ⟨ha, v, rfl, hv⟩
  · exact .stay hH (run_loadAt_agg ht ha (by rw [hl]; exact hs) hc) hv
  · exact .stay hH (run_loadAt_one ht ha (by simpa [Addr.add] using hc 0 v rfl)) hv

/-! ### Numbers, strings, truths -/
theorem ibin_run {op : BinOp} {k : IntKind} {a b : Int} {r : Value} (h : ibin op k a b = some r) (t : TypeId) (x y : Operand) :
    (do eqGuard op t x y (.int k a) (.int k b); binOp op t (.int k a) (.int k b)).run P w = .ok r w ∧ notAgg r = true := by
  have hg : eqGuard op t x y (.int k a) (.int k b) = pure () := eqGuard_at_int ..
  rw [hg]
  cases op <;> simp only [ibin, Option.some.injEq] at h <;> try (cases h; done)
  case quo => split at h <;> simp at h; rename_i hb; subst h; simp [binOp, Op.intDiv, hb, notAgg]
  case rem => split at h <;> simp at h; rename_i hb; subst h; simp [binOp, Op.intDiv, hb, notAgg]
  all_goals (subst h; simp [binOp, Op.intArith, Op.intCmp, notAgg, intBits_and, intBits_or, intBits_xor, intBits_andNot])

theorem ishift_run {op : BinOp} {k k' : IntKind} {a b : Int} {r : Value} (h : ishift op k a b = some r) (t : TypeId) (x y : Operand) :
    (do eqGuard op t x y (.int k a) (.int k' b); binOp op t (.int k a) (.int k' b)).run P w = .ok r w ∧ notAgg r = true := by
  have hg : eqGuard op t x y (.int k a) (.int k' b) = pure () := eqGuard_at_int ..
  rw [hg]
  cases op <;> simp only [ishift] at h <;> try (cases h; done)
  all_goals (split at h <;> simp at h; rename_i hb; subst h; simp [binOp, Op.shift, hb, notAgg])

theorem toList_data (s : ByteArray) : s.toList = s.data.toList := ByteArray.toList_eq s

theorem sbin_run {op : BinOp} {a b : ByteArray} {r : Value} (h : sbin op a b = some r) (t : TypeId) (x y : Operand) :
    (do eqGuard op t x y (.string a) (.string b); binOp op t (.string a) (.string b)).run P w = .ok r w ∧ notAgg r = true := by
  have hg : eqGuard op t x y (.string a) (.string b) = pure () := eqGuard_at_string ..
  rw [hg]
  cases op <;> simp only [sbin, Option.some.injEq] at h <;> try (cases h; done)
  case add =>
    split at h <;> simp at h
    rename_i hb
    subst h
    have hn : ¬ (IntKind.i64.max < ((a.size + b.size : Nat) : Int)) := by rw [IntKind.max_i64]; omega
    have hn' : ¬ (9223372036854775807 < (a.size : Int) + (b.size : Int)) := by omega
    simp [binOp, Op.stringOp, notAgg, hn']
  all_goals (subst h; simp [binOp, Op.stringOp, notAgg, toList_data])

theorem run_eql_any (neq : Bool) (t : TypeId) (a b : Value) (hx : ∀ k n, a ≠ .int k n) (hs : ∀ s, a ≠ .string s) (hf : ∀ k n, a ≠ .float k n) (hc : ∀ k n m, a ≠ .complex k n m) :
    (binOp (if neq then .neq else .eql) t a b).run P w = ((Op.equal t a b).run P w).andThen fun r w' => .ok (.bool (if neq then !r else r)) w' := by
  cases neq
  · simp only [Bool.false_eq_true, if_false]
    unfold binOp
    split <;> first | (exfalso; simp_all; done) | skip
    all_goals first | (simp_all; done) | skip
    all_goals simp
  · simp only [if_true]
    unfold binOp
    split <;> first | (exfalso; simp_all; done) | skip
    all_goals first | (simp_all; done) | skip
    all_goals simp

theorem bbin_run {t : TypeId} (ht : P.underlying t = some .bool) (neq a b : Bool) (x y : Operand) :
    (do eqGuard (if neq then .neq else .eql) t x y (.bool a) (.bool b); binOp (if neq then .neq else .eql) t (.bool a) (.bool b)).run P w = .ok (.bool (if neq then !(a == b) else a == b)) w := by
  rw [eqGuard_at_bool, Sem.run_bind, Sem.run_pure, Result.andThen_ok, run_eql_any neq t _ _ (by simp) (by simp) (by simp) (by simp), run_equal_bool w t a b ht]
  rfl

theorem anil_v {k : NKind} {u : Value} {r : Bool} (h : anil k (.v u) = some r) : r = true ∧ match k with
    | .ptr => u = .pointer none | .slice => ∃ n c, u = .slice none n c | .map => u = .map none | .func => u = .nilFunc | .iface => u = .nilIface := by
  unfold anil at h
  split at h <;> simp_all

theorem nbin_equal {t : TypeId} {d : TypeDesc} (ht : P.underlying t = some d) {z : Value} {k : NKind} (hd : nilD d (.const z) = some k) {x : AV} {u : Value} (hx : VRel e w x u) {r : Bool} (hr : anil k x = some r) :
    (∀ dd, (Op.equalIn (dd + 1) t u z).run P w = .ok r w) ∧ (∀ (op : BinOp) (x : Operand), eqGuard op t x (.const z) u z = pure ()) ∧ (∀ k n, u ≠ .int k n) ∧ (∀ s, u ≠ .string s) ∧ (∀ k n, u ≠ .float k n) ∧ (∀ k n m, u ≠ .complex k n m) := by
  have hu := run_underlying ht w
  cases d <;> cases z <;> (try (simp [nilD] at hd; done))
  case pointer.pointer el a =>
    cases a with
    | some _ => simp [nilD] at hd
    | none =>
    simp only [nilD, Option.some.injEq] at hd
    subst hd
    cases hx with
    | v _ hv =>
      obtain ⟨rfl, hk⟩ := anil_v hr
      have hk : u = _ := hk
      rw [hk]
      exact ⟨fun dd => by simp [Op.equalIn, hu], fun _ _ => eqGuard_at_pointer .., by simp, by simp, by simp, by simp⟩
    | ptr => simp only [anil, Option.some.injEq] at hr; subst hr; exact ⟨fun dd => by simp [Op.equalIn, hu], fun _ _ => eqGuard_at_pointer .., by simp, by simp, by simp, by simp⟩
    | rop => simp only [anil, Option.some.injEq] at hr; subst hr; exact ⟨fun dd => by simp [Op.equalIn, hu], fun _ _ => eqGuard_at_pointer .., by simp, by simp, by simp, by simp⟩
    | _ => simp only [anil] at hr; cases hr
  case slice.slice el a n c =>
    cases a with
    | some _ => simp [nilD] at hd
    | none =>
    simp only [nilD, Option.some.injEq] at hd
    subst hd
    cases hx with
    | v _ hv =>
      obtain ⟨rfl, hk⟩ := anil_v hr
      obtain ⟨n1, c1, hk⟩ := hk
      rw [hk]
      exact ⟨fun dd => by simp [Op.equalIn, hu], fun _ _ => eqGuard_at_slice .., by simp, by simp, by simp, by simp⟩
    | slc => simp only [anil, Option.some.injEq] at hr; subst hr; exact ⟨fun dd => by simp [Op.equalIn, hu], fun _ _ => eqGuard_at_slice .., by simp, by simp, by simp, by simp⟩
    | ro => simp only [anil, Option.some.injEq] at hr; subst hr; exact ⟨fun dd => by simp [Op.equalIn, hu], fun _ _ => eqGuard_at_slice .., by simp, by simp, by simp, by simp⟩
    | _ => simp only [anil] at hr; cases hr
  case map.map k' el a =>
    cases a with
    | some _ => simp [nilD] at hd
    | none =>
    simp only [nilD, Option.some.injEq] at hd
    subst hd
    cases hx with
    | v _ hv =>
      obtain ⟨rfl, hk⟩ := anil_v hr
      have hk : u = _ := hk
      rw [hk]
      exact ⟨fun dd => by simp [Op.equalIn, hu], fun _ _ => eqGuard_at_map .., by simp, by simp, by simp, by simp⟩
    | mp => simp only [anil, Option.some.injEq] at hr; subst hr; exact ⟨fun dd => by simp [Op.equalIn, hu], fun _ _ => eqGuard_at_map .., by simp, by simp, by simp, by simp⟩
    | _ => simp only [anil] at hr; cases hr
  case func.nilFunc =>
    simp only [nilD, Option.some.injEq] at hd
    subst hd
    cases hx with
    | v _ hv =>
      obtain ⟨rfl, hk⟩ := anil_v hr
      have hk : u = _ := hk
      rw [hk]
      exact ⟨fun dd => by simp [Op.equalIn, hu], fun _ _ => eqGuard_at_nilFunc .., by simp, by simp, by simp, by simp⟩
    | fn => simp only [anil, Option.some.injEq] at hr; subst hr; exact ⟨fun dd => by simp [Op.equalIn, hu], fun _ _ => eqGuard_at_func .., by simp, by simp, by simp, by simp⟩
    | _ => simp only [anil] at hr; cases hr
  case interface.nilIface =>
    simp only [nilD, Option.some.injEq] at hd
    subst hd
    cases hx with
    | v _ hv =>
      obtain ⟨rfl, hk⟩ := anil_v hr
      have hk : u = _ := hk
      rw [hk]
      exact ⟨fun dd => by simp [Op.equalIn, hu], fun _ _ => eqGuard_nil_constR .., by simp, by simp, by simp, by simp⟩
    | ifc => simp only [anil, Option.some.injEq] at hr; subst hr; exact ⟨fun dd => by simp [Op.equalIn, hu], fun _ _ => eqGuard_at_iface .., by simp, by simp, by simp, by simp⟩
    | _ => simp only [anil] at hr; cases hr

end
end Go.Proofs.Ytooaiddfokbffaa.E
