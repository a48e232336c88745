/- Texts of the proof, one behind the other. Conditions: none. -/
import Derived.Test.YtooaiddfokbffaaA3
import Derived.Test.YtooaiddfokbffaaRows
import Derived.KernelRfl
/- Terms are made, as the code makes them; the level 0 is canonical. Conditions: none. -/
set_option linter.unusedVariables false
set_option linter.unusedSimpArgs false
namespace Go.Proofs.Ytooaiddfokbffaa.E
open Go Go.Proofs
attribute [local go_sem] s_seq s_ops s_draw s_block s_skip s_ret s_exit i_nil i_cons i_run i_runG s_condQ c_true c_false aop ev_t ev_c updO_at updO_no upd_at t_normal t_ret t_exit b_normal b_ret b_exit a_some ac_v ac_agg ac_ptr ac_slc ac_ro ac_rop ac_fn new_next set_next argTm_zero argTm_succ argTm_nil ab_bool ab_uv beq_self_eq_true Option.some_beq_some Bool.not_not beq_iff_eq decide_true decide_false Bool.not_true Bool.not_false afld aload astore apack alen_str alen_ro alen_slc alen_nil new_get set_get ite_true ite_false Option.map_some Option.bind_some ibin isShift Nat.add_zero Nat.zero_add List.length_cons List.length_nil List.drop_zero List.drop_succ_cons List.take_succ_cons List.take_zero if_true if_false setL List.set_cons_zero List.set_cons_succ List.all_cons List.all_nil one_int one_bool one_str one_nil one_ptr one_slc one_ro one_rop one_fn Bool.and_self Bool.and_true true_and and_true and_self Bool.false_eq_true post_ret post_normal resAll resOne packR Option.some.injEq exists_eq_left' List.map_cons List.map_nil List.nil_append List.append_nil List.cons_append d_nil d_cons k_nil k_cons g_op g_same g_new avBlock forall_eq' List.getElem?_cons_succ List.getElem?_cons_zero List.getElem?_nil okind gOk bne false_imp_iff forall_const imp_self implies_true true_imp_iff i_callG

theorem SCall.wf {P : Program} {f : FuncId} {args : List AV} {H : AHeap} {R : AV → AHeap → Prop} (h : SCall P f args H R) : SCall P f args H fun x H' => R x H' ∧ Wf H' :=
  ⟨h.1, fun e w us h1 h2 => (h.2 e w us h1 h2).mono fun en w' ⟨u, x, H', e', a, b, c, d⟩ => ⟨u, x, H', e', a, ⟨b, c.get⟩, c, d⟩⟩

set_option maxRecDepth 100000 in
theorem set_ok (H : AHeap) : SCall Try.prog 23 [aint 0] H fun x H' => ((∃ b, H.next ≤ b ∧ x = .agg [aint 2, aint 0, abl false, nostr, .slc b 0 2 1 1 true, nils] ∧ H'.get b = some (.cells [aint 0, nils])) ∧ Ext H H') ∧ Wf H' := by
  refine SCall.wf (SCall.intro mixed cf23 ?_)
  have e1 : ¬ H.next = H.next + 1 := by omega
  have e2 : ¬ H.next + 1 = H.next := by omega
  simp -implicitDefEqProofs only [c23, go_sem, Nat.reduceEqDiff, Nat.reduceAdd, Nat.reduceLeDiff, ↓reduceIte, reduceCtorEq, Int.reduceBEq, Int.reduceBNe, Int.reduceLT, Int.reduceLE, Int.reduceGT, Int.reduceGE, Int.reduceNeg, Int.reduceAdd, Int.reduceSub, Nat.reduceMul, Nat.reduceLT, Int.reduceToNat, afill, e1, e2]
  refine ⟨⟨H.next + 1, by omega, rfl, ?_⟩, ?_, fun b hb => ?_⟩
  · simp -implicitDefEqProofs only [go_sem, Nat.reduceEqDiff, Nat.reduceAdd, Nat.reduceLeDiff, ↓reduceIte, reduceCtorEq, Int.reduceBEq, Int.reduceBNe, Int.reduceLT, Int.reduceLE, Int.reduceGT, Int.reduceGE, Int.reduceNeg, Int.reduceAdd, Int.reduceSub, Nat.reduceMul, Nat.reduceLT, Int.reduceToNat, e1, e2]
  · simp -implicitDefEqProofs only [go_sem, Nat.reduceEqDiff, Nat.reduceAdd, Nat.reduceLeDiff, ↓reduceIte, reduceCtorEq, Int.reduceBEq, Int.reduceBNe, Int.reduceLT, Int.reduceLE, Int.reduceGT, Int.reduceGE, Int.reduceNeg, Int.reduceAdd, Int.reduceSub, Nat.reduceMul, Nat.reduceLT, Int.reduceToNat]; omega
  · have k1 : ¬ b = H.next := by omega
    have k2 : ¬ b = H.next + 1 := by omega
    simp -implicitDefEqProofs only [go_sem, Nat.reduceEqDiff, Nat.reduceAdd, Nat.reduceLeDiff, ↓reduceIte, reduceCtorEq, Int.reduceBEq, Int.reduceBNe, Int.reduceLT, Int.reduceLE, Int.reduceGT, Int.reduceGE, Int.reduceNeg, Int.reduceAdd, Int.reduceSub, Nat.reduceMul, Nat.reduceLT, Int.reduceToNat, k1, k2]

/-! ### Levels -/
def isBool (b : Bool) : Option (AV × AHeap) → Bool
  | some (.v (.bool c), _) => c == b
  | _ => false

def yes : Lv → Bool := fun _ => true

/-- Terms that are made here. -/
inductive Made : Tm → Prop
  | set : Made setTm
  | fst {t : Tm} (h : Made t) : Made (fstTm t)
  | app {a b : Tm} (h : Made a) (k : Made b) : Made (appTm a b)

theorem Made.formed {t : Tm} (h : Made t) : allF (formF yes) t = true := by
  induction h with
  | set => rfl
  | fst h ih =>
    simp only [fstTm, allF, allK, ih, Bool.and_true]
    rfl
  | app h k ih1 ih2 =>
    simp only [appTm, allF, allK, ih1, ih2, Bool.and_true]
    rfl

theorem Made.check {t : Tm} (h : Made t) : checkF yes t = if (fitT 0 1 t).1 = false then 2 else 0 := by
  simp only [checkF, h.formed, Bool.true_eq_false, if_false]

def chain : Nat → Tm
  | 0 => setTm
  | n + 1 => fstTm (chain n)

end Go.Proofs.Ytooaiddfokbffaa.E

/- A term of the input, as a tree. Conditions: none. -/
set_option linter.unusedVariables false
set_option linter.unusedSimpArgs false
namespace Go.Proofs.Ytooaiddfokbffaa.E
open Go Go.Proofs

theorem mapM_at {α β : Type} {f : α → Option β} : ∀ (l : List α) (xs : List β), l.mapM f = some xs → xs.length = l.length ∧ ∀ (i : Nat) (x : α), l[i]? = some x → ∃ y, xs[i]? = some y ∧ f x = some y
  | [], xs, h => by
    simp at h
    subst h
    exact ⟨rfl, fun i x h => by simp at h⟩
  | a :: l, xs, h => by
    rw [List.mapM_cons] at h
    simp only [Option.bind_eq_bind, Option.bind_eq_some_iff, Option.pure_def, Option.some.injEq] at h
    obtain ⟨y, h1, ys, h2, rfl⟩ := h
    obtain ⟨h3, h4⟩ := mapM_at l ys h2
    refine ⟨by simp [h3], fun i x hx => ?_⟩
    cases i with
    | zero => simp at hx; subst hx; exact ⟨y, rfl, h1⟩
    | succ i => simpa using h4 i x (by simpa using hx)

theorem cells_at {w : World} {base : Nat} {a : Addr} {n : Nat} {vs : List Value} (h : w.cells? base a n = some vs) : vs.length = n ∧ ∀ (i : Nat) (u : Value), vs[i]? = some u → w.cell? (a.add i) = some u := by
  unfold World.cells? at h
  split at h
  · obtain ⟨h1, h2⟩ := mapM_at _ _ h
    rw [List.length_range] at h1
    refine ⟨h1, fun i u hu => ?_⟩
    have hi : i < n := by rw [← h1]; exact (List.getElem?_eq_some_iff.1 hu).1
    obtain ⟨y, h3, h4⟩ := h2 i i (by simp [hi])
    rw [hu] at h3
    injection h3 with h3
    rw [h3]
    exact h4
  · cases h

/-- What is read is of no more bulk than reaches. -/
def Wt {H : Type} (P : Program) (t : TypeId) (d : DataW H) : Prop := ∀ n ∈ d.weights P t, n ≤ reachBytes

theorem weightsAll_mem {H : Type} {P : Program} {e : TypeId} : ∀ {l : List (DataW H)} {d : DataW H}, d ∈ l → ∀ n ∈ d.weights P e, n ∈ DataW.weightsAll P e l
  | [], _, h, _, _ => by cases h
  | x :: r, d, h, n, hn => by
    simp only [DataW.weightsAll, List.mem_append]
    rcases List.mem_cons.1 h with rfl | h
    · exact .inl hn
    · exact .inr (weightsAll_mem h n hn)

/-- A slice's element, one by one, where the reading of the whole went well. -/
theorem trod_slice {H : Type} {enc : TypeId × Value → H} {P : Program} {w : World} {base : Nat} {sp : Nat → Bool} {held : Bool} {fuel : Nat} {t e : TypeId} (ht : P.underlying t = some (.slice e)) {v : Value} {d : DataW H} {ps : List MemPlace}
    (h : DataW.trod enc P w base sp held (fuel + 1) t [v] = some (d, ps)) (hwt : Wt P t d) :
    v = .slice none 0 0 ∨ ∃ (a : Addr) (len cap : Nat) (us : List Value), v = .slice (some a) len cap ∧ len ≤ cap ∧ cap ≤ maxLen ∧ us.length = len * P.cellsOf e ∧ (∀ (i : Nat) (u : Value), us[i]? = some u → w.cell? (a.add i) = some u) ∧
      (∀ i, i < len → ∃ d' p', DataW.trod enc P w base sp held fuel e ((us.drop (i * P.cellsOf e)).take (P.cellsOf e)) = some (d', p') ∧ Wt P e d') ∧ len * P.bytesOf e ≤ reachBytes := by
  cases v with
  | slice a len cap =>
    cases a with
    | none =>
      simp only [DataW.trod, ht] at h
      split at h <;> simp_all
    | some a =>
      simp only [DataW.trod, ht] at h
      split at h
      · rename_i hc
        obtain ⟨hc1, hc2, hc3⟩ := hc
        simp only [Option.bind_eq_some_iff] at h
        obtain ⟨elems, h2, hrest⟩ := h
        simp only [Option.map_eq_some_iff, Prod.mk.injEq] at hrest
        obtain ⟨rest, _, hd, _⟩ := hrest
        obtain ⟨h3, h4⟩ := mapM_at _ _ h2
        rw [List.length_range] at h3
        have hbulk : len * P.bytesOf e ≤ reachBytes := by
          have := hwt ((elems.length + rest.length) * P.bytesOf e) (by rw [← hd]; simp [DataW.weights, ht])
          refine Nat.le_trans (Nat.mul_le_mul_right _ ?_) this
          omega
        have key : ∀ i, i < len → ∃ vs, w.cells? base (a.add (i * P.cellsOf e)) (P.cellsOf e) = some vs ∧ vs.length = P.cellsOf e ∧ (∀ (j : Nat) (u : Value), vs[j]? = some u → w.cell? ((a.add (i * P.cellsOf e)).add j) = some u) ∧
            ∃ d' p', DataW.trod enc P w base sp held fuel e vs = some (d', p') ∧ Wt P e d' := by
          intro i hi
          obtain ⟨y, h5, h6⟩ := h4 i i (by simp [hi])
          simp only [Option.bind_eq_some_iff] at h6
          obtain ⟨vs, h7, h8⟩ := h6
          obtain ⟨h9, h10⟩ := cells_at h7
          refine ⟨vs, h7, h9, h10, y.1, y.2, h8, fun n hn => hwt n ?_⟩
          rw [← hd]
          simp only [DataW.weights, ht, List.mem_cons, List.mem_append]
          exact .inr (.inl (weightsAll_mem (List.mem_map_of_mem (List.mem_of_getElem? h5)) n hn))
        refine .inr ⟨a, len, cap, (List.range (len * P.cellsOf e)).map fun j => (w.cell? (a.add j)).getD undef, rfl, hc2, hc3, by simp, ?_, ?_, hbulk⟩
        · intro i u hu
          simp only [List.getElem?_map, Option.map_eq_some_iff] at hu
          obtain ⟨j, hj, rfl⟩ := hu
          rw [List.getElem?_eq_some_iff] at hj
          obtain ⟨hj1, hj2⟩ := hj
          simp at hj1 hj2
          subst hj2
          have hcpos : 0 < P.cellsOf e := Nat.pos_of_ne_zero fun h0 => by rw [h0] at hj1; omega
          obtain ⟨vs, q1, q2, q3, q4⟩ := key (i / P.cellsOf e) (Nat.div_lt_of_lt_mul (by rw [Nat.mul_comm]; exact hj1))
          have hr := Nat.mod_lt i hcpos
          have h5 := q3 (i % P.cellsOf e) _ (List.getElem?_eq_getElem (q2 ▸ hr))
          rw [addr_add_add, Nat.mul_comm, Nat.div_add_mod] at h5
          rw [h5]
          rfl
        · intro i hi
          obtain ⟨vs, q1, q2, q3, q4⟩ := key i hi
          have heq : (((List.range (len * P.cellsOf e)).map fun j => (w.cell? (a.add j)).getD undef).drop (i * P.cellsOf e)).take (P.cellsOf e) = vs := by
            apply List.ext_getElem?
            intro r
            rw [List.getElem?_take]
            split
            · rename_i hr
              have hlt : i * P.cellsOf e + r < len * P.cellsOf e := by
                have : (i + 1) * P.cellsOf e ≤ len * P.cellsOf e := Nat.mul_le_mul_right _ hi
                rw [Nat.add_mul] at this
                omega
              have hv := List.getElem?_eq_getElem (l := vs) (i := r) (q2 ▸ hr)
              have h5 := q3 r _ hv
              rw [addr_add_add] at h5
              rw [List.getElem?_drop, List.getElem?_map, List.getElem?_range hlt, hv]
              simp [h5]
            · rename_i hr
              rw [List.getElem?_eq_none (by omega)]
          rw [heq]
          exact q4
      · cases h
  | _ => simp [DataW.trod, ht] at h

theorem weightsEach_mem {H : Type} {P : Program} : ∀ {fs : List Field} {ds : List (DataW H)} {i : Nat} {f : Field} {d : DataW H}, fs[i]? = some f → ds[i]? = some d → ∀ n ∈ d.weights P f.type, n ∈ DataW.weightsEach P (fs.map (·.type)) ds
  | [], _, i, f, d, h, _, _, _ => by simp at h
  | _ :: _, [], i, f, d, _, h, _, _ => by simp at h
  | g :: fs, x :: ds, i, f, d, hf, hd, n, hn => by
    simp only [List.map_cons, DataW.weightsEach, List.mem_append]
    cases i with
    | zero => simp at hf hd; subst hf hd; exact .inl hn
    | succ i => exact .inr (weightsEach_mem (by simpa using hf) (by simpa using hd) n hn)

theorem trod_struct {H : Type} {enc : TypeId × Value → H} {P : Program} {w : World} {base : Nat} {sp : Nat → Bool} {held : Bool} {fuel : Nat} {t : TypeId} {fs : Array Field} (ht : P.underlying t = some (.struct fs)) {cs : List Value} {d : DataW H} {ps : List MemPlace}
    (h : DataW.trod enc P w base sp held (fuel + 1) t cs = some (d, ps)) (hwt : Wt P t d) :
    cs.length = P.cellsOf t ∧ ∀ f ∈ fs.toList, ∃ d' p', DataW.trod enc P w base sp held fuel f.type ((cs.drop f.offset).take (P.cellsOf f.type)) = some (d', p') ∧ Wt P f.type d' := by
  simp only [DataW.trod, ht] at h
  split at h
  · rename_i hl
    refine ⟨hl, fun f hf => ?_⟩
    simp only [Option.map_eq_some_iff, Prod.mk.injEq] at h
    obtain ⟨xs, h1, hd, _⟩ := h
    obtain ⟨_, h2⟩ := mapM_at _ _ h1
    obtain ⟨i, hi⟩ := List.getElem?_of_mem hf
    obtain ⟨y, hy, h3⟩ := h2 i f hi
    refine ⟨y.1, y.2, h3, fun n hn => hwt n ?_⟩
    rw [← hd]
    simp only [DataW.weights, ht]
    exact weightsEach_mem hi (by simp [hy]) n hn
  · cases h

theorem trod_int {H : Type} {enc : TypeId × Value → H} {P : Program} {w : World} {base : Nat} {sp : Nat → Bool} {held : Bool} {fuel : Nat} {t : TypeId} {k : IntKind} (ht : P.underlying t = some (.int k)) {v : Value} {d : DataW H} {ps : List MemPlace}
    (h : DataW.trod enc P w base sp held fuel t [v] = some (d, ps)) : ∃ n, v = .int k n ∧ (Lit.int k n).wf = true := by
  cases fuel with
  | zero => simp [DataW.trod] at h
  | succ fuel =>
    cases v <;> simp only [DataW.trod, ht] at h <;> try (cases h; done)
    split at h
    · rename_i hh; exact ⟨_, by rw [hh.1], hh.2⟩
    · cases h

theorem trod_bool {H : Type} {enc : TypeId × Value → H} {P : Program} {w : World} {base : Nat} {sp : Nat → Bool} {held : Bool} {fuel : Nat} {t : TypeId} (ht : P.underlying t = some .bool) {v : Value} {d : DataW H} {ps : List MemPlace}
    (h : DataW.trod enc P w base sp held fuel t [v] = some (d, ps)) : ∃ b, v = .bool b := by
  cases fuel with
  | zero => simp [DataW.trod] at h
  | succ fuel =>
    cases v <;> simp only [DataW.trod, ht] at h <;> try (cases h; done)
    exact ⟨_, rfl⟩

theorem trod_str {H : Type} {enc : TypeId × Value → H} {P : Program} {w : World} {base : Nat} {sp : Nat → Bool} {held : Bool} {fuel : Nat} {t : TypeId} (ht : P.underlying t = some .string) {v : Value} {d : DataW H} {ps : List MemPlace}
    (h : DataW.trod enc P w base sp held fuel t [v] = some (d, ps)) (hwt : Wt P t d) : ∃ s, v = .string s ∧ s.size ≤ reachBytes := by
  cases fuel with
  | zero => simp [DataW.trod] at h
  | succ fuel =>
    cases v <;> simp only [DataW.trod, ht] at h <;> try (cases h; done)
    split at h
    · rename_i s hh
      simp only [Option.some.injEq, Prod.mk.injEq] at h
      exact ⟨s, rfl, hwt s.size (by rw [← h.1]; simp [DataW.weights])⟩
    · cases h

end Go.Proofs.Ytooaiddfokbffaa.E

/- A term of the input, as a tree, whole. Conditions: none. -/
set_option linter.unusedVariables false
set_option linter.unusedSimpArgs false
namespace Go.Proofs.Ytooaiddfokbffaa.E
open Go Go.Proofs

/-- Rows of elements, each of so many cells. -/
def RL {K : Type} (c : Nat) (R : K → List AV → Prop) : List K → List AV → Prop
  | [], _ => True
  | k :: ks, cs => R k (cs.take c) ∧ RL c R ks (cs.drop c)

theorem rl_of {K : Type} {w : World} {c : Nat} {R : K → List AV → Prop} : ∀ (len : Nat) (us : List Value), us.length = len * c → (∀ i, i < len → ∃ k ys, R k ys ∧ LRel Emb.empty w ys ((us.drop (i * c)).take c)) →
    ∃ (ks : List K) (cs : List AV), ks.length = len ∧ LRel Emb.empty w cs us ∧ RL c R ks cs
  | 0, us, hl, _ => by
    have : us = [] := List.length_eq_zero_iff.1 (by omega)
    subst this
    exact ⟨[], [], rfl, ⟨rfl, fun i x u h => by simp at h⟩, trivial⟩
  | len + 1, us, hl, h => by
    rw [Nat.add_mul, Nat.one_mul] at hl
    obtain ⟨k, ys, h1, h2⟩ := h 0 (Nat.succ_pos _)
    rw [Nat.zero_mul, List.drop_zero] at h2
    obtain ⟨ks, cs, h3, h4, h5⟩ := rl_of (c := c) (R := R) len (us.drop c) (by rw [List.length_drop]; omega) (fun i hi => by
      obtain ⟨k, ys, h6, h7⟩ := h (i + 1) (by omega)
      refine ⟨k, ys, h6, ?_⟩
      rw [List.drop_drop, show c + i * c = (i + 1) * c by rw [Nat.add_mul]; omega]
      exact h7)
    have hys : ys.length = c := by
      have := h2.1
      rw [List.length_take] at this
      omega
    refine ⟨k :: ks, ys ++ cs, by simp [h3], ?_, ?_⟩
    · have := h2.append h4
      rw [List.take_append_drop] at this
      exact this
    · simp only [RL]
      rw [List.take_append_of_le_length (by omega), List.take_of_length_le (by omega), List.drop_append_of_le_length (by omega), List.drop_of_length_le (by omega), List.nil_append]
      exact ⟨h1, h5⟩

theorem slice_rel {w : World} {a : Addr} {len cap : Nat} {us : List Value} (hlc : len ≤ cap) (hcell : ∀ (i : Nat) (u : Value), us[i]? = some u → w.cell? (a.add i) = some u) {cs : List AV} (h : LRel Emb.empty w cs us) :
    VRel Emb.empty w (.ro len cap false cs) (.slice (some a) len cap) :=
  .ro len cap false cs a cap us hlc (Nat.le_refl _) (fun h => by cases h) h.1 (fun i u hu => ⟨hcell i u hu, nohit _⟩) h.2

theorem cells3 : Try.prog.cellsOf 3 = 1 := by kernel_rfl
theorem cells4 : Try.prog.cellsOf 4 = 1 := by kernel_rfl
theorem cells9 : Try.prog.cellsOf 9 = 1 := by kernel_rfl
theorem cells22 : Try.prog.cellsOf 22 = 1 := by kernel_rfl
theorem cells23 : Try.prog.cellsOf 23 = 1 := by kernel_rfl
theorem cells25 : Try.prog.cellsOf 25 = 6 := by kernel_rfl
theorem cells63 : Try.prog.cellsOf 63 = 1 := by kernel_rfl
theorem cells65 : Try.prog.cellsOf 65 = 2 := by kernel_rfl
theorem cells168 : Try.prog.cellsOf 168 = 2 := by kernel_rfl

theorem bytes25 : Try.prog.bytesOf 25 = 88 := by kernel_rfl
theorem bytes65 : Try.prog.bytesOf 65 = 32 := by kernel_rfl
theorem bytes168 : Try.prog.bytesOf 168 = 16 := by kernel_rfl
theorem reach_eq : reachBytes = 140737488351232 := rfl

def Rng (n : Int) : Prop := -9223372036854775808 ≤ n ∧ n ≤ 9223372036854775807
theorem Rng.of {n : Int} (h : (Lit.int .i64 n).wf = true) : Rng n := by
  simp only [Lit.wf, Bool.and_eq_true, decide_eq_true_eq] at h
  exact h

section
variable {H : Type} {enc : TypeId × Value → H} {w : World} {base : Nat} {sp : Nat → Bool} {held : Bool}

theorem two_of {cs : List Value} (h : cs.length = 2) : ∃ a b, cs = [a, b] := by
  match cs, h with
  | [a, b], _ => exact ⟨a, b, rfl⟩

theorem trod_var {fuel : Nat} {cs : List Value} {d : DataW H} {ps : List MemPlace} (h : DataW.trod enc Try.prog w base sp held fuel 168 cs = some (d, ps)) (hwt : Wt Try.prog 168 d) :
    ∃ v : Int × Int, (Rng v.1 ∧ Rng v.2) ∧ LRel Emb.empty w [aint v.1, aint v.2] cs := by
  cases fuel with
  | zero => simp [DataW.trod] at h
  | succ fuel =>
  obtain ⟨h1, h2⟩ := trod_struct Try.underlying168 h hwt
  rw [cells168] at h1
  obtain ⟨a, b, rfl⟩ := two_of h1
  obtain ⟨d1, p1, h3, u3⟩ := h2 _ (List.mem_cons_self ..)
  obtain ⟨d2, p2, h4, u4⟩ := h2 _ (List.mem_cons_of_mem _ (List.mem_cons_self ..))
  simp only [cells3, List.drop_zero, List.take_succ_cons, List.take_zero, List.drop_succ_cons] at h3 h4
  obtain ⟨m, rfl, w1⟩ := trod_int Try.underlying3 h3
  obtain ⟨n, rfl, w2⟩ := trod_int Try.underlying3 h4
  refine ⟨(m, n), ⟨Rng.of w1, Rng.of w2⟩, rfl, fun i x u hx hu => ?_⟩
  match i, hx, hu with
  | 0, hx, hu => simp at hx hu; subst hx hu; exact .v _ rfl
  | 1, hx, hu => simp at hx hu; subst hx hu; exact .v _ rfl

theorem vars_of_rl : ∀ {vars : List (Int × Int)} {vs : List AV}, RL 2 (fun (v : Int × Int) ys => (Rng v.1 ∧ Rng v.2) ∧ ys = [aint v.1, aint v.2]) vars vs → VarsR vars vs ∧ ∀ v ∈ vars, Rng v.1 ∧ Rng v.2
  | [], _, _ => ⟨trivial, fun v hv => by cases hv⟩
  | v :: r, vs, h => by
    simp only [RL] at h
    obtain ⟨⟨h1, h2⟩, h3⟩ := h
    obtain ⟨h4, h5⟩ := vars_of_rl h3
    refine ⟨⟨h2, h4⟩, fun x hx => ?_⟩
    rcases List.mem_cons.1 hx with rfl | hx
    · exact h1
    · exact h5 x hx

/-- A level's own bounds. -/
def LvB (l : Lv) : Prop := Rng l.n ∧ l.vars.length * 16 ≤ 140737488351232 ∧ ∀ v ∈ l.vars, Rng v.1 ∧ Rng v.2

theorem rel_two {x y : AV} {u v : Value} (h : VRel Emb.empty w x u) (k : VRel Emb.empty w y v) : LRel Emb.empty w [x, y] [u, v] :=
  ⟨rfl, fun i a b hx hu => by
    match i, hx, hu with
    | 0, hx, hu => simp at hx hu; subst hx hu; exact h
    | 1, hx, hu => simp at hx hu; subst hx hu; exact k⟩

theorem trod_lv {fuel : Nat} {cs : List Value} {d : DataW H} {ps : List MemPlace} (h : DataW.trod enc Try.prog w base sp held fuel 65 cs = some (d, ps)) (hwt : Wt Try.prog 65 d) :
    ∃ (l : Lv) (vx : AV) (vs : List AV), LvB l ∧ SlR l.vars.length vx vs ∧ VarsR l.vars vs ∧ LRel Emb.empty w [aint l.n, vx] cs := by
  cases fuel with
  | zero => simp [DataW.trod] at h
  | succ fuel =>
  obtain ⟨h1, h2⟩ := trod_struct Try.underlying65 h hwt
  rw [cells65] at h1
  obtain ⟨a, b, rfl⟩ := two_of h1
  obtain ⟨d1, p1, h3, u3⟩ := h2 _ (List.mem_cons_self ..)
  obtain ⟨d2, p2, h4, u4⟩ := h2 _ (List.mem_cons_of_mem _ (List.mem_cons_self ..))
  simp only [cells3, cells63, List.drop_zero, List.take_succ_cons, List.take_zero, List.drop_succ_cons] at h3 h4
  obtain ⟨m, rfl, w1⟩ := trod_int Try.underlying3 h3
  cases fuel with
  | zero => simp [DataW.trod] at h4
  | succ fuel =>
  rcases trod_slice Try.underlying63 h4 u4 with rfl | ⟨ad, len, cap, us, rfl, k1, k2, k3, k4, k5, k6⟩
  · exact ⟨⟨m, []⟩, nils, [], ⟨Rng.of w1, by simp, fun v hv => by cases hv⟩, .inl ⟨rfl, rfl⟩, trivial, rel_two (.v _ rfl) (.v _ rfl)⟩
  · rw [cells168] at k3 k5
    rw [bytes168, reach_eq] at k6
    obtain ⟨vars, vs, q1, q2, q3⟩ := rl_of (c := 2) (R := fun (v : Int × Int) ys => (Rng v.1 ∧ Rng v.2) ∧ ys = [aint v.1, aint v.2]) len us k3 (fun i hi => by
      obtain ⟨d', p', k6, k9⟩ := k5 i hi
      obtain ⟨v, k7, k8⟩ := trod_var k6 k9
      exact ⟨v, _, ⟨k7, rfl⟩, k8⟩)
    obtain ⟨q4, q5⟩ := vars_of_rl q3
    exact ⟨⟨m, vars⟩, .ro len cap false vs, vs, ⟨Rng.of w1, by simp only [q1]; omega, q5⟩, .inr ⟨cap, false, by simp only [q1], by simp only [q1]; omega⟩, q4, rel_two (.v _ rfl) (slice_rel k1 k4 q2)⟩

end

end Go.Proofs.Ytooaiddfokbffaa.E

/- A term of the input, as a tree, whole. Conditions: none. -/
set_option linter.unusedVariables false
set_option linter.unusedSimpArgs false
namespace Go.Proofs.Ytooaiddfokbffaa.E
open Go Go.Proofs

theorem lvs_of_rl : ∀ {ls : List Lv} {cs : List AV}, RL 2 (fun (l : Lv) ys => LvB l ∧ ∃ vx vs, SlR l.vars.length vx vs ∧ VarsR l.vars vs ∧ ys = [aint l.n, vx]) ls cs → LvsR ls cs ∧ ∀ l ∈ ls, LvB l
  | [], _, _ => ⟨trivial, fun v hv => by cases hv⟩
  | l :: r, cs, h => by
    simp only [RL] at h
    obtain ⟨⟨h1, vx, vs, h2, h3, h4⟩, h5⟩ := h
    obtain ⟨h6, h7⟩ := lvs_of_rl h5
    refine ⟨⟨⟨vx, vs, h4, h2, h3⟩, h6⟩, fun x hx => ?_⟩
    rcases List.mem_cons.1 hx with rfl | hx
    · exact h1
    · exact h7 x hx

/-- A part's own bounds. -/
def TmB (t : Tm) : Prop := Rng t.form ∧ Rng t.n ∧ t.name.size ≤ 140737488351232 ∧ t.lv.length * 32 ≤ 140737488351232 ∧ t.kids.length * 88 ≤ 140737488351232 ∧ ∀ l ∈ t.lv, LvB l

theorem ks_of_rl : ∀ {ks : List Tm} {cs : List AV}, RL 6 (fun (t : Tm) ys => Tm.All TmB t ∧ TmR t ys) ks cs → KsR ks cs ∧ Tm.AllL TmB ks
  | [], _, _ => ⟨trivial, trivial⟩
  | k :: r, cs, h => by
    simp only [RL] at h
    obtain ⟨⟨h1, h2⟩, h3⟩ := h
    obtain ⟨h4, h5⟩ := ks_of_rl h3
    exact ⟨⟨h2, h4⟩, h1, h5⟩

section
variable {H : Type} {enc : TypeId × Value → H} {w : World} {base : Nat} {sp : Nat → Bool} {held : Bool}

theorem six_of {cs : List Value} (h : cs.length = 6) : ∃ a b c d e f, cs = [a, b, c, d, e, f] := by
  match cs, h with
  | [a, b, c, d, e, f], _ => exact ⟨a, b, c, d, e, f, rfl⟩

theorem trod_tm : ∀ (fuel : Nat) (cs : List Value) (d : DataW H) (ps : List MemPlace), DataW.trod enc Try.prog w base sp held fuel 25 cs = some (d, ps) → Wt Try.prog 25 d →
    ∃ (t : Tm) (ys : List AV), Tm.All TmB t ∧ TmR t ys ∧ LRel Emb.empty w ys cs := by
  intro fuel
  induction fuel using Nat.strongRecOn with
  | _ fuel ih =>
  intro cs d ps h hwt
  cases fuel with
  | zero => simp [DataW.trod] at h
  | succ fuel =>
  obtain ⟨h1, h2⟩ := trod_struct Try.underlying25 h hwt
  rw [cells25] at h1
  obtain ⟨v1, v2, v3, v4, v5, v6, rfl⟩ := six_of h1
  simp only [Array.toList, List.mem_cons, List.not_mem_nil, or_false, forall_eq_or_imp, forall_eq] at h2
  obtain ⟨⟨_, _, g1, _⟩, ⟨_, _, g2, _⟩, ⟨_, _, g3, _⟩, ⟨_, _, g4, f4⟩, ⟨_, _, g5, f5⟩, ⟨_, _, g6, f6⟩⟩ := h2
  simp only [cells3, cells4, cells9, cells22, cells23, List.drop_zero, List.take_succ_cons, List.take_zero, List.drop_succ_cons] at g1 g2 g3 g4 g5 g6
  obtain ⟨f, rfl, w1⟩ := trod_int Try.underlying3 g1
  obtain ⟨n, rfl, w2⟩ := trod_int Try.underlying3 g2
  obtain ⟨hid, rfl⟩ := trod_bool Try.underlying4 g3
  obtain ⟨s, rfl, w4⟩ := trod_str Try.underlying9 g4 f4
  cases fuel with
  | zero => simp [DataW.trod] at g5
  | succ fuel =>
  have hlv : ∃ (lv : List Lv) (lx : AV) (ls : List AV), lv.length * 32 ≤ 140737488351232 ∧ (∀ l ∈ lv, LvB l) ∧ SlR lv.length lx ls ∧ LvsR lv ls ∧ VRel Emb.empty w lx v5 := by
    rcases trod_slice Try.underlying22 g5 f5 with rfl | ⟨ad, len, cap, us, rfl, k1, k2, k3, k4, k5, kb⟩
    · exact ⟨[], nils, [], by simp, (fun v hv => by cases hv), .inl ⟨rfl, rfl⟩, trivial, .v _ rfl⟩
    · rw [cells65] at k3 k5
      rw [bytes65, reach_eq] at kb
      obtain ⟨lv, ls, q1, q2, q3⟩ := rl_of (c := 2) (R := fun (l : Lv) ys => LvB l ∧ ∃ vx vs, SlR l.vars.length vx vs ∧ VarsR l.vars vs ∧ ys = [aint l.n, vx]) len us k3 (fun i hi => by
        obtain ⟨d', p', k6, kw⟩ := k5 i hi
        obtain ⟨l, vx, vs, k7, k8, k9, k10⟩ := trod_lv k6 kw
        exact ⟨l, _, ⟨k7, vx, vs, k8, k9, rfl⟩, k10⟩)
      obtain ⟨q4, q5⟩ := lvs_of_rl q3
      exact ⟨lv, .ro len cap false ls, ls, by omega, q5, .inr ⟨cap, false, by rw [q1], by omega⟩, q4, slice_rel k1 k4 q2⟩
  have hks : ∃ (ks : List Tm) (kx : AV) (cs : List AV), ks.length * 88 ≤ 140737488351232 ∧ Tm.AllL TmB ks ∧ SlR ks.length kx cs ∧ KsR ks cs ∧ VRel Emb.empty w kx v6 := by
    rcases trod_slice Try.underlying23 g6 f6 with rfl | ⟨ad, len, cap, us, rfl, k1, k2, k3, k4, k5, kb⟩
    · exact ⟨[], nils, [], by simp, trivial, .inl ⟨rfl, rfl⟩, trivial, .v _ rfl⟩
    · rw [cells25] at k3 k5
      rw [bytes25, reach_eq] at kb
      obtain ⟨ks, cs', q1, q2, q3⟩ := rl_of (c := 6) (R := fun (t : Tm) ys => Tm.All TmB t ∧ TmR t ys) len us k3 (fun i hi => by
        obtain ⟨d', p', k6, kw⟩ := k5 i hi
        obtain ⟨t, ys, k7, k8, k9⟩ := ih fuel (by omega) _ _ _ k6 kw
        exact ⟨t, ys, ⟨k7, k8⟩, k9⟩)
      obtain ⟨q4, q5⟩ := ks_of_rl q3
      exact ⟨ks, .ro len cap false cs', cs', by omega, q5, .inr ⟨cap, false, by rw [q1], by omega⟩, q4, slice_rel k1 k4 q2⟩
  obtain ⟨lv, lx, ls, r1, r2, r3, r4, r5⟩ := hlv
  obtain ⟨ks, kx, cs', m1, m2, m3, m4, m5⟩ := hks
  refine ⟨.mk f n hid s lv ks, [aint f, aint n, abl hid, .v (.string s), lx, kx], ?_, ?_, rfl, fun i x u hx hu => ?_⟩
  · simp only [Tm.All]
    exact ⟨⟨Rng.of w1, Rng.of w2, w4, r1, m1, r2⟩, m2⟩
  · simp only [TmR]
    exact ⟨lx, kx, ls, cs', rfl, r3, r4, m3, m4⟩
  · match i, hx, hu with
    | 0, hx, hu => simp at hx hu; subst hx hu; exact .v _ rfl
    | 1, hx, hu => simp at hx hu; subst hx hu; exact .v _ rfl
    | 2, hx, hu => simp at hx hu; subst hx hu; exact .v _ rfl
    | 3, hx, hu => simp at hx hu; subst hx hu; exact .v _ rfl
    | 4, hx, hu => simp at hx hu; subst hx hu; exact r5
    | 5, hx, hu => simp at hx hu; subst hx hu; exact m5

end
end Go.Proofs.Ytooaiddfokbffaa.E

/- The law TermLong, walked. Conditions: none. -/
set_option linter.unusedVariables false
set_option linter.unusedSimpArgs false
set_option maxRecDepth 1000000
namespace Go.Proofs.Ytooaiddfokbffaa.E
open Go Go.Proofs
attribute [local go_sem] s_seq s_ops s_draw s_block s_skip s_ret s_exit i_nil i_cons i_run i_runG s_condQ c_true c_false aop ev_t ev_c updO_at updO_no upd_at t_normal t_ret t_exit b_normal b_ret b_exit a_some ac_v ac_agg ac_ptr ac_slc ac_ro ac_rop ac_fn new_next set_next argTm_zero argTm_succ argTm_nil ab_bool ab_uv beq_self_eq_true Option.some_beq_some Bool.not_not beq_iff_eq decide_true decide_false Bool.not_true Bool.not_false afld aload astore apack alen_str alen_ro alen_slc alen_nil new_get set_get ite_true ite_false Option.map_some Option.bind_some ibin isShift Nat.add_zero Nat.zero_add List.length_cons List.length_nil List.drop_zero List.drop_succ_cons List.take_succ_cons List.take_zero if_true if_false setL List.set_cons_zero List.set_cons_succ List.all_cons List.all_nil one_int one_bool one_str one_nil one_ptr one_slc one_ro one_rop one_fn Bool.and_self Bool.and_true true_and and_true and_self Bool.false_eq_true post_ret post_normal resAll resOne packR Option.some.injEq exists_eq_left' List.map_cons List.map_nil List.nil_append List.append_nil List.cons_append d_nil d_cons k_nil k_cons g_op g_same g_new avBlock forall_eq' List.getElem?_cons_succ List.getElem?_cons_zero List.getElem?_nil okind gOk bne false_imp_iff forall_const imp_self implies_true true_imp_iff i_callG

end Go.Proofs.Ytooaiddfokbffaa.E

/- Calls whose answer is laid out anew: frozen at their end; loops over rows. Conditions: none. -/
set_option linter.unusedVariables false
set_option linter.unusedSimpArgs false
namespace Go.Proofs.Ytooaiddfokbffaa.E
open Go

/-- What is new is frozen, what was there stays. -/
inductive FrzN (n : Nat) (H : AHeap) : AV → AV → Prop
  | keep (x : AV) (h : Old n x) : FrzN n H x x
  | slc (b off es len lo : Nat) (ex : Bool) (l cs : List AV) (hb : H.get b = some (.cells l)) (hn : n ≤ b) (hl : cs.length ≤ l.length - off)
      (hz : ∀ (i : Nat) (x y : AV), l[off + i]? = some x → cs[i]? = some y → FrzN n H x y) : FrzN n H (.slc b off es len lo ex) (.ro len lo ex cs)
  | agg (l cs : List AV) (hn : cs.length = l.length) (hz : ∀ (i : Nat) (x y : AV), l[i]? = some x → cs[i]? = some y → FrzN n H x y) : FrzN n H (.agg l) (.agg cs)
  | tup (l cs : List AV) (hn : cs.length = l.length) (hz : ∀ (i : Nat) (x y : AV), l[i]? = some x → cs[i]? = some y → FrzN n H x y) : FrzN n H (.tup l) (.tup cs)

section
variable {e : Emb} {w : World} {H : AHeap} {P : Program}

theorem FrzN.rel {n : Nat} (hH : HRel e H w) {x y : AV} (h : FrzN n H x y) : ∀ u, VRel e w x u → VRel (e.cut n) w y u := by
  induction h with
  | keep x h => intro u hu; exact hu.cut h
  | slc b off es len lo ex l cs hb hn hl hz ih =>
    intro u hu
    cases hu with
    | slc _ _ _ _ _ _ c k hm hl' hlo hcap ws t fr hw hs =>
    obtain ⟨hlive, ws', t', h1, h2⟩ := hH.obj b _ c hb hm
    rw [hw] at h1
    injection h1 with h1
    injection h1 with h1 _ _
    subst h1
    have hno : ¬ (e.cut n).hits c := by
      rintro ⟨b', q1, q2⟩
      rw [cut_map] at q1
      split at q1
      · rename_i hlt
        have := hH.inj b' b c q1 hm q2 hlive
        omega
      · cases q1
    have hget : ∀ i, i < cs.length → ∃ u, ws[off + i]? = some u ∧ ∃ x, l[off + i]? = some x ∧ VRel e w x u := fun i hi => by
      have hx := List.getElem?_eq_getElem (l := l) (i := off + i) (by omega)
      obtain ⟨u, h3, h4⟩ := h2 (off + i) _ hx
      exact ⟨u, h3, _, hx, h4⟩
    refine .ro len lo ex cs ⟨c, off, none⟩ k ((List.range cs.length).map fun i => ws.getD (off + i) undef) hl' hlo hcap (by simp) (fun i u hu => ⟨?_, hno⟩) (fun i y u hy hu => ?_)
    · simp only [List.getElem?_map, Option.map_eq_some_iff] at hu
      obtain ⟨j, hj, rfl⟩ := hu
      rw [List.getElem?_eq_some_iff] at hj
      obtain ⟨hj1, hj2⟩ := hj
      simp at hj1 hj2
      subst hj2
      obtain ⟨u, h3, _⟩ := hget i hj1
      rw [addr_add_plain]
      unfold World.cell?
      simp only [hw]
      rw [Array.getD_eq_getD_getElem?, h3]
      rfl
    · simp only [List.getElem?_map, Option.map_eq_some_iff] at hu
      obtain ⟨j, hj, rfl⟩ := hu
      rw [List.getElem?_eq_some_iff] at hj
      obtain ⟨hj1, hj2⟩ := hj
      simp at hj1 hj2
      subst hj2
      obtain ⟨u, h3, x, hx, h4⟩ := hget i hj1
      rw [Array.getD_eq_getD_getElem?, h3]
      exact ih i x y hx hy u h4
  | agg l cs hn hz ih =>
    intro u hu
    cases hu with
    | agg _ us hn' hr =>
      refine .agg cs us (by omega) fun i y u hy hu => ?_
      have hi : i < l.length := by rw [← hn]; exact (List.getElem?_eq_some_iff.1 hy).1
      exact ih i _ y (List.getElem?_eq_getElem hi) hy u (hr i _ u (List.getElem?_eq_getElem hi) hu)
  | tup l cs hn hz ih =>
    intro u hu
    cases hu with
    | tup _ us hn' hr =>
      refine .tup cs us (by omega) fun i y u hy hu => ?_
      have hi : i < l.length := by rw [← hn]; exact (List.getElem?_eq_some_iff.1 hy).1
      exact ih i _ y (List.getElem?_eq_getElem hi) hy u (hr i _ u (List.getElem?_eq_getElem hi) hu)

def WfH (H : AHeap) : Prop := ∀ b o, H.get b = some o → b < H.next

/-- The answer, and what is new of it, is frozen; the heap is as it was, but for what is told. -/
theorem SCall.frzTo {f : FuncId} {args : List AV} {R : AV → AHeap → Prop} {G : AV → AHeap → Prop} (h : SCall P f args H R)
    (ho : (∀ y, y ∈ args → Old H.next y) → WfH H → ∀ x H', R x H' → WfH H' → ∃ H1, H1.next = H.next ∧ WfH H1 ∧ H.next ≤ H'.next ∧ (∀ b, b < H.next → H'.get b = H1.get b) ∧
      (∀ b, b < H.next → ∀ o, H1.get b = some o → H.get b = some o ∨ OldO H.next o) ∧ ∃ y, FrzN H.next H' x y ∧ G y H1) : SCall P f args H G := by
  refine ⟨h.1, fun e w us hH hL => (h.2 e w us hH hL).mono fun en w' hp => ?_⟩
  obtain ⟨u, x, H', e', rfl, h1, h2, h3, h4⟩ := hp
  obtain ⟨H1, k1, k2, k3, k4, k5, y, k6, k7⟩ := ho (hL.old hH) hH.get x H' h1 h2.get
  have heq : H'.cut H.next = H1 := by
    cases H1 with
    | mk g n =>
      simp only at k1
      subst k1
      simp only [AHeap.cut, AHeap.mk.injEq, and_true]
      funext b
      split
      · rename_i hb; exact k4 b hb
      · rename_i hb
        cases hg : g b with
        | none => rfl
        | some o => exact absurd (k2 b o hg) hb
  refine ⟨u, y, H1, e'.cut H.next, rfl, k7, ?_, k6.rel h2 u h3, h4.cut hH⟩
  rw [← heq]
  refine h2.cut k3 (fun b hb o c hg hm => ?_)
  rw [k4 b hb] at hg
  rcases k5 b hb o hg with k | k
  · cases he : e.map b with
    | none => have := h4.un b (by rw [hH.next]; exact hb) he; rw [hm] at this; cases this
    | some c' => exact hH.oldO k he
  · exact k

theorem SCall.frz {f : FuncId} {args : List AV} {R : AV → AHeap → Prop} {G : AV → Prop} (h : SCall P f args H R)
    (ho : (∀ y, y ∈ args → Old H.next y) → WfH H → ∀ x H', R x H' → WfH H' → Ext H H' ∧ ∃ y, FrzN H.next H' x y ∧ G y) : SCall P f args H fun y H' => G y ∧ H' = H :=
  h.frzTo fun ha hw x H' hr hw' => let ⟨⟨h1, h2⟩, y, h3, h4⟩ := ho ha hw x H' hr hw'; ⟨H, rfl, hw, h1, h2, fun b _ o hg => .inl hg, y, h3, h4, rfl⟩

/-- What a call answers leads to no block behind its heap. -/
theorem SCall.old {f : FuncId} {args : List AV} {R : AV → AHeap → Prop} (h : SCall P f args H R) : SCall P f args H fun x H' => R x H' ∧ Old H'.next x ∧ WfH H' :=
  ⟨h.1, fun e w us h1 h2 => (h.2 e w us h1 h2).mono fun en w' ⟨u, x, H', e', a, b, c, d, g⟩ => ⟨u, x, H', e', a, ⟨b, d.old fun b c hm => HRel.mlt ‹_› hm, c.get⟩, c, d, g⟩⟩

theorem Old.mono {n m : Nat} (hn : n ≤ m) {x : AV} (h : Old n x) : Old m x := by
  induction h with
  | v x => exact .v x
  | ptr b off h => exact .ptr b off (Nat.lt_of_lt_of_le h hn)
  | slc b off es len lo ex h => exact .slc b off es len lo ex (Nat.lt_of_lt_of_le h hn)
  | ro len lo ex cells h ih => exact .ro len lo ex cells ih
  | rop cells off h ih => exact .rop cells off ih
  | fn f a b h1 h2 ih1 ih2 => exact .fn f a b ih1 ih2
  | agg cells h ih => exact .agg cells ih
  | tup cells h ih => exact .tup cells ih
  | ifc t x h ih => exact .ifc t x ih
  | mp b h => exact .mp b (Nat.lt_of_lt_of_le h hn)
  | ch b h => exact .ch b (Nat.lt_of_lt_of_le h hn)
  | yld b h => exact .yld b (Nat.lt_of_lt_of_le h hn)

theorem Old.aggs {n : Nat} {cs : List AV} (h : Old n (.agg cs)) : ∀ x ∈ cs, Old n x := by cases h; assumption
theorem Ext.refl (H : AHeap) : Ext H H := ⟨Nat.le_refl _, fun _ _ => rfl⟩
theorem Ext.trans {H1 H2 : AHeap} (h : Ext H H1) (k : Ext H1 H2) : Ext H H2 := ⟨Nat.le_trans h.1 k.1, fun b hb => by rw [k.2 b (Nat.lt_of_lt_of_le hb h.1), h.2 b hb]⟩
theorem Ext.new {H1 : AHeap} (h : Ext H H1) (o : AObj) : Ext H (H1.new o) := ⟨Nat.le_succ_of_le h.1, fun b hb => by rw [new_get, if_neg (by have := h.1; omega)]; exact h.2 b hb⟩
theorem Ext.set {H1 : AHeap} (h : Ext H H1) {b : Nat} (hb : H.next ≤ b) (o : AObj) : Ext H (H1.set b o) := ⟨h.1, fun x hx => by rw [set_get, if_neg (by omega)]; exact h.2 x hx⟩
theorem Ext.kill {H1 : AHeap} (h : Ext H H1) {b : Nat} (hb : H.next ≤ b) : Ext H (H1.kill b) := ⟨h.1, fun x hx => by rw [kill_get, if_neg (by omega)]; exact h.2 x hx⟩

/-- A loop that goes over a row. -/
theorem swp_range {b : ACode} {Q : AExit → ASt → Prop} (n : Nat) (I : Nat → ASt → Prop) {st : ASt} (h0 : I 0 st) (hstep : ∀ i st, i < n → I i st → swp P b (thenQ (I (i + 1)) Q) st)
    (hend : ∀ st, I n st → swp P b (thenQ (fun _ => False) Q) st) : swp P (.loop b) Q st := by
  refine swp_loop (fun k st => ∃ i, k = n - i ∧ i ≤ n ∧ I i st) (k := n) ⟨0, by omega, by omega, h0⟩ ?_
  rintro k st ⟨i, rfl, hi, hI⟩
  rcases Nat.lt_or_ge i n with h | h
  · exact swp_mono b (hstep i st h hI) fun x st' hx => by
      cases x with
      | normal => exact ⟨n - (i + 1), by omega, i + 1, rfl, by omega, hx⟩
      | ret => exact hx
      | exit id => exact hx
  · obtain rfl : i = n := by omega
    exact swp_mono b (hend st hI) fun x st' hx => by
      cases x with
      | normal => exact hx.elim
      | ret => exact hx
      | exit id => exact hx

end
end Go.Proofs.Ytooaiddfokbffaa.E

/- Rows that are made by appending. Conditions: none. -/
set_option linter.unusedVariables false
set_option linter.unusedSimpArgs false
namespace Go.Proofs.Ytooaiddfokbffaa.E
open Go

/-- A row of so many elements, made here: its cells. -/
def OutS (H : AHeap) (base es n : Nat) (l : List AV) (x : AV) : Prop :=
  (n = 0 ∧ l = [] ∧ x = .v (.slice none 0 0)) ∨ ∃ b, base ≤ b ∧ b < H.next ∧ x = .slc b 0 es n n false ∧ H.get b = some (.cells l) ∧ l.length = n * es

section
variable {P : Program} {H : AHeap} {base es n : Nat} {l : List AV} {x : AV}

theorem OutS.nil : OutS H base es 0 [] (.v (.slice none 0 0)) := .inl ⟨rfl, rfl, rfl⟩
theorem OutS.alen (h : OutS H base es n l x) (H' : AHeap) : alen H' .slice x = some n := by
  rcases h with ⟨rfl, rfl, rfl⟩ | ⟨b, h1, h2, rfl, h3⟩ <;> rfl
theorem OutS.one (h : OutS H base es n l x) : x.one = true := by
  rcases h with ⟨rfl, rfl, rfl⟩ | ⟨b, h1, h2, rfl, h3⟩ <;> rfl
theorem OutS.cells (h : OutS H base es n l x) : x.acells = [x] := by
  rcases h with ⟨rfl, rfl, rfl⟩ | ⟨b, h1, h2, rfl, h3⟩ <;> rfl
theorem OutS.new (h : OutS H base es n l x) (o : AObj) : OutS (H.new o) base es n l x := by
  rcases h with h | ⟨b, h1, h2, h3, h4, h5⟩
  · exact .inl h
  · exact .inr ⟨b, h1, by rw [new_next]; omega, h3, by rw [new_get, if_neg (by omega)]; exact h4, h5⟩
theorem OutS.set (h : OutS H base es n l x) {b' : Nat} (hb : ∀ off es' n' lo ex, x ≠ .slc b' off es' n' lo ex) (o : AObj) : OutS (H.set b' o) base es n l x := by
  rcases h with h | ⟨b, h1, h2, h3, h4, h5⟩
  · exact .inl h
  · exact .inr ⟨b, h1, by rw [set_next]; omega, h3, by rw [set_get, if_neg (fun hh => hb _ _ _ _ _ (hh ▸ h3))]; exact h4, h5⟩
/-- Another heap, in which it is as it was. -/
theorem OutS.keep (h : OutS H base es n l x) {H' : AHeap} (hn : H.next ≤ H'.next) (hk : ∀ b off es' n' lo ex, x = .slc b off es' n' lo ex → H'.get b = H.get b) : OutS H' base es n l x := by
  rcases h with h | ⟨b, h1, h2, h3, h4, h5⟩
  · exact .inl h
  · exact .inr ⟨b, h1, by omega, h3, by rw [hk b _ _ _ _ _ h3]; exact h4, h5⟩

theorem OutS.low (h : OutS H base es n l x) {base' : Nat} (hb : base' ≤ base) : OutS H base' es n l x := by
  rcases h with h | ⟨b, h1, h2⟩
  · exact .inl h
  · exact .inr ⟨b, by omega, h2⟩

theorem OutS.step {K : ASt → Prop} {tm : Nat → AV} {d : Option Nat} {bytes m : Nat} {y : AV} {new : List AV} (hO : OutS H base es n l x) (hsrc : asrc H es y = some (m, new)) (hone : new.all AV.one = true) (hm : 0 < m) (hes : 0 < es)
    (hlim : (n + m) * bytes ≤ 140737488355328 ∧ n + m ≤ 9223372036854775807) (hnl : new.length = m * es) (hbase : base ≤ H.next)
    (k : ∀ x' H', OutS H' base es (n + m) (l ++ new) x' → H.next ≤ H'.next → (∀ b, b < H.next → (∀ off es' n' lo ex, x ≠ .slc b off es' n' lo ex) → H'.get b = H.get b) → K ⟨updO tm d x', H'⟩) :
    after K tm d (aappend H es bytes x y) := by
  unfold aappend
  rw [hsrc]
  simp only
  rw [if_neg (by rw [hone]; simp; omega)]
  rcases hO with ⟨rfl, rfl, rfl⟩ | ⟨b, h1, h2, rfl, h3, h4⟩
  · simp only
    rw [if_neg (by omega), if_pos (by rw [Nat.zero_add] at hlim; exact hlim)]
    simp only [after]
    refine k _ _ (.inr ⟨H.next, hbase, by rw [new_next]; omega, by rw [Nat.zero_add], by rw [new_get, if_pos rfl]; simp, by rw [Nat.zero_add]; simpa using hnl⟩) (Nat.le_succ _) fun b hb _ => ?_
    rw [new_get, if_neg (by omega)]
  · simp only [h3]
    rw [if_pos ⟨trivial, by omega⟩, if_neg (by omega), if_neg (by omega), if_pos hlim, if_neg (by simp), if_pos ⟨trivial, h4⟩]
    simp only [after]
    refine k _ _ (.inr ⟨H.next, hbase, by rw [new_next]; exact Nat.lt_succ_self _, rfl, by rw [new_get]; exact if_pos rfl, by rw [List.length_append, h4, hnl, Nat.add_mul]⟩) (Nat.le_succ _) fun b' hb hne => ?_
    have : b' ≠ b := fun hh => hne 0 es n n false (by rw [hh])
    rw [new_get, if_neg (show ¬ b' = (H.kill b).next from (show ¬ b' = H.next by omega)), kill_get, if_neg this]

/-- The same, with nothing new. -/
theorem OutS.step0 {K : ASt → Prop} {tm : Nat → AV} {d : Option Nat} {bytes : Nat} {y : AV} (hO : OutS H base es n l x) (hsrc : asrc H es y = some (0, [])) (hes : 0 < es)
    (k : K ⟨updO tm d x, H⟩) : after K tm d (aappend H es bytes x y) := by
  unfold aappend
  rw [hsrc]
  simp only
  rw [if_neg (by simp; omega)]
  rcases hO with ⟨rfl, rfl, rfl⟩ | ⟨b, h1, h2, rfl, h3, h4⟩
  · simp only [if_pos, after]; exact k
  · simp only [h3]
    rw [if_pos ⟨trivial, by omega⟩, if_pos trivial]
    exact k

theorem OutS.frz (hO : OutS H base es n l x) {N : Nat} (hN : N ≤ base) {cs : List AV} (hl : cs.length = l.length) (hz : ∀ (i : Nat) (x y : AV), l[i]? = some x → cs[i]? = some y → FrzN N H x y) :
    ∃ y, FrzN N H x y ∧ ((n = 0 ∧ y = .v (.slice none 0 0)) ∨ ∃ lo ex, y = .ro n lo ex cs ∧ n ≤ lo) := by
  rcases hO with ⟨rfl, rfl, rfl⟩ | ⟨b, h1, h2, rfl, h3, h4⟩
  · exact ⟨_, .keep _ (.v _), .inl ⟨rfl, rfl⟩⟩
  · exact ⟨_, .slc b 0 es n n false l cs h3 (by omega) (by omega) (fun i x y hx hy => hz i x y (by simpa using hx) hy), .inr ⟨n, false, rfl, Nat.le_refl _⟩⟩

/-- The same, of what is old. -/
theorem OutS.frzOld (hO : OutS H base es n l x) {N : Nat} (hN : N ≤ base) (ho : ∀ y ∈ l, Old N y) : ∃ y, FrzN N H x y ∧ ((n = 0 ∧ y = .v (.slice none 0 0)) ∨ ∃ lo ex, y = .ro n lo ex l ∧ n ≤ lo) :=
  hO.frz hN rfl fun i x y hx hy => by rw [hx] at hy; injection hy with hy; subst hy; exact .keep _ (ho _ (List.mem_of_getElem? hx))

theorem asrc_slc {b off m lo : Nat} {ex : Bool} {c : List AV} (hb : H.get b = some (.cells c)) (hl : off + m * es ≤ c.length) : asrc H es (.slc b off es m lo ex) = some (m, (c.drop off).take (m * es)) := by
  simp only [asrc, hb]
  rw [if_pos ⟨trivial, hl⟩]

/-- A block is given away: what leads there is frozen. -/
inductive FrzK (b : Nat) (l : List AV) : AV → AV → Prop
  | keep (x : AV) : FrzK b l x x
  | slc (off es len lo : Nat) (ex : Bool) (cs : List AV) (hl : off + cs.length ≤ l.length) (hc : cs = (l.drop off).take cs.length) : FrzK b l (.slc b off es len lo ex) (.ro len lo ex cs)
  | ptr (off : Nat) : FrzK b l (.ptr b off) (.rop l off)
  | ro (len lo : Nat) (ex : Bool) (cs ds : List AV) (hn : ds.length = cs.length) (hz : ∀ (i : Nat) (x y : AV), cs[i]? = some x → ds[i]? = some y → FrzK b l x y) : FrzK b l (.ro len lo ex cs) (.ro len lo ex ds)
  | agg (cs ds : List AV) (hn : ds.length = cs.length) (hz : ∀ (i : Nat) (x y : AV), cs[i]? = some x → ds[i]? = some y → FrzK b l x y) : FrzK b l (.agg cs) (.agg ds)
  | fn (f : Fn) (a c a' c' : List AV) (hn : a'.length = a.length) (hn' : c'.length = c.length) (h1 : ∀ (i : Nat) (x y : AV), a[i]? = some x → a'[i]? = some y → FrzK b l x y)
      (h2 : ∀ (i : Nat) (x y : AV), c[i]? = some x → c'[i]? = some y → FrzK b l x y) : FrzK b l (.fn f a c) (.fn f a' c')

theorem FrzK.rel {e : Emb} {w : World} {b : Nat} {l : List AV} (hH : HRel e H w) (hb : H.get b = some (.cells l)) {x y : AV} (h : FrzK b l x y) : ∀ u, VRel e w x u → VRel (e.kill b) w y u := by
  have hno : ∀ {c : Nat}, e.map b = some c → ¬ (e.kill b).hits c := by
    rintro c hm ⟨b', q1, q2⟩
    rw [kill_map] at q1
    rw [kill_live] at q2
    split at q2
    · cases q2
    · rename_i hne
      exact hne (hH.inj b' b c q1 hm q2 (hH.obj b _ c hb hm).1)
  induction h with
  | keep x => intro u hu; exact hu.evo (Evo.kill e w b)
  | slc off es len lo ex cs hl hcs =>
    intro u hu
    cases hu with
    | slc _ _ _ _ _ _ c k hm hl' hlo hcap ws t fr hw hs =>
    obtain ⟨_, ws', t', h1, h2⟩ := hH.obj b _ c hb hm
    rw [hw] at h1
    injection h1 with h1
    injection h1 with h1 _ _
    subst h1
    have hget : ∀ i, i < cs.length → ∃ u x, ws[off + i]? = some u ∧ l[off + i]? = some x ∧ cs[i]? = some x ∧ VRel e w x u := fun i hi => by
      have hx := List.getElem?_eq_getElem (l := l) (i := off + i) (by omega)
      obtain ⟨u, h3, h4⟩ := h2 (off + i) _ hx
      refine ⟨u, _, h3, hx, ?_, h4⟩
      have := congrArg (fun q => q[i]?) hcs
      simp only [List.getElem?_take, if_pos hi, List.getElem?_drop] at this
      exact this.trans hx
    refine .ro len lo ex cs ⟨c, off, none⟩ k ((List.range cs.length).map fun i => ws.getD (off + i) undef) hl' hlo hcap (by simp) (fun i u hu => ⟨?_, hno hm⟩) (fun i y u hy hu => ?_)
    · simp only [List.getElem?_map, Option.map_eq_some_iff] at hu
      obtain ⟨j, hj, rfl⟩ := hu
      rw [List.getElem?_eq_some_iff] at hj
      obtain ⟨hj1, hj2⟩ := hj
      simp at hj1 hj2
      subst hj2
      obtain ⟨u, x, h3, _⟩ := hget i hj1
      rw [addr_add_plain]
      unfold World.cell?
      simp only [hw]
      rw [Array.getD_eq_getD_getElem?, h3]
      rfl
    · simp only [List.getElem?_map, Option.map_eq_some_iff] at hu
      obtain ⟨j, hj, rfl⟩ := hu
      rw [List.getElem?_eq_some_iff] at hj
      obtain ⟨hj1, hj2⟩ := hj
      simp at hj1 hj2
      subst hj2
      obtain ⟨u, x, h3, hx, hcx, h4⟩ := hget i hj1
      rw [Array.getD_eq_getD_getElem?, h3]
      rw [hcx] at hy
      injection hy with hy
      subst hy
      exact h4.evo (Evo.kill e w b)
  | ptr off =>
    intro u hu
    cases hu with
    | ptr _ _ c hm =>
    obtain ⟨_, ws, t, h1, h2⟩ := hH.obj b _ c hb hm
    have key : (⟨c, 0, none⟩ : Addr).add off = ⟨c, off, none⟩ := by rw [addr_add_plain, Nat.zero_add]
    rw [← key]
    refine .rop l off ⟨c, 0, none⟩ ((List.range l.length).map fun i => ws.getD i undef) (by simp) (fun i u hu => ⟨?_, hno hm⟩) (fun i y u hy hu => ?_)
    · simp only [List.getElem?_map, Option.map_eq_some_iff] at hu
      obtain ⟨j, hj, rfl⟩ := hu
      rw [List.getElem?_eq_some_iff] at hj
      obtain ⟨hj1, hj2⟩ := hj
      simp at hj1 hj2
      subst hj2
      obtain ⟨u, h3, h4⟩ := h2 i _ (List.getElem?_eq_getElem hj1)
      rw [addr_add_plain, Nat.zero_add]
      unfold World.cell?
      simp only [h1]
      rw [Array.getD_eq_getD_getElem?, h3]
      rfl
    · simp only [List.getElem?_map, Option.map_eq_some_iff] at hu
      obtain ⟨j, hj, rfl⟩ := hu
      rw [List.getElem?_eq_some_iff] at hj
      obtain ⟨hj1, hj2⟩ := hj
      simp at hj1 hj2
      subst hj2
      obtain ⟨u, h3, h4⟩ := h2 i y hy
      rw [Array.getD_eq_getD_getElem?, h3]
      exact h4.evo (Evo.kill e w b)
  | ro len lo ex cs ds hn hz ih =>
    intro u hu
    cases hu with
    | ro _ _ _ _ a k us hl hlo hcap hn' hs hr =>
      refine .ro len lo ex ds a k us hl hlo hcap (by omega) (fun i u hu => ⟨(hs i u hu).1, fun ⟨b', q1, q2⟩ => (hs i u hu).2 ⟨b', q1, ?_⟩⟩) fun i y u hy hu => ?_
      · rw [kill_live] at q2
        split at q2
        · cases q2
        · exact q2
      · have hi : i < cs.length := by rw [← hn]; exact (List.getElem?_eq_some_iff.1 hy).1
        exact ih i _ y (List.getElem?_eq_getElem hi) hy u (hr i _ u (List.getElem?_eq_getElem hi) hu)
  | agg cs ds hn hz ih =>
    intro u hu
    cases hu with
    | agg _ us hn' hr =>
      refine .agg ds us (by omega) fun i y u hy hu => ?_
      have hi : i < cs.length := by rw [← hn]; exact (List.getElem?_eq_some_iff.1 hy).1
      exact ih i _ y (List.getElem?_eq_getElem hi) hy u (hr i _ u (List.getElem?_eq_getElem hi) hu)
  | fn f a c a' c' hn hn' h1 h2 ih1 ih2 =>
    intro u hu
    cases hu with
    | fn _ _ _ fs cs hf hc k1 k2 =>
      refine .fn f a' c' fs cs (by omega) (by omega) (fun i y u hy hu => ?_) (fun i y u hy hu => ?_)
      · have hi : i < a.length := by rw [← hn]; exact (List.getElem?_eq_some_iff.1 hy).1
        exact ih1 i _ y (List.getElem?_eq_getElem hi) hy u (k1 i _ u (List.getElem?_eq_getElem hi) hu)
      · have hi : i < c.length := by rw [← hn']; exact (List.getElem?_eq_some_iff.1 hy).1
        exact ih2 i _ y (List.getElem?_eq_getElem hi) hy u (k2 i _ u (List.getElem?_eq_getElem hi) hu)

theorem SCall.give {f : FuncId} {args args' : List AV} {R : AV → AHeap → Prop} {b : Nat} {l : List AV} (hb : H.get b = some (.cells l)) (hn : args'.length = args.length)
    (hz : ∀ (i : Nat) (x y : AV), args[i]? = some x → args'[i]? = some y → FrzK b l x y) (h : SCall P f args' (H.kill b) R) : SCall P f args H R := by
  refine ⟨h.1, fun e w us hH hL => (h.2 (e.kill b) w us (hH.kill b) ⟨by rw [hL.1, hn], fun i y u hy hu => ?_⟩).mono fun en w' hp => ?_⟩
  · have hi : i < args.length := by rw [← hn]; exact (List.getElem?_eq_some_iff.1 hy).1
    exact (hz i _ y (List.getElem?_eq_getElem hi) hy).rel hH hb u (hL.2 i _ u (List.getElem?_eq_getElem hi) hu)
  · obtain ⟨u, x, H', e', rfl, h1, h2, h3, h4⟩ := hp
    exact ⟨u, x, H', e', rfl, h1, h2, h3, (Evo.kill e w b).trans h4⟩

/-- Arguments, one by one. -/
inductive FrzKs (b : Nat) (l : List AV) : List AV → List AV → Prop
  | nil : FrzKs b l [] []
  | cons {x y : AV} {xs ys : List AV} (h : FrzK b l x y) (k : FrzKs b l xs ys) : FrzKs b l (x :: xs) (y :: ys)
theorem FrzKs.len {b : Nat} {l xs ys : List AV} (h : FrzKs b l xs ys) : ys.length = xs.length := by
  induction h with
  | nil => rfl
  | cons _ _ ih => simp [ih]
theorem FrzKs.get {b : Nat} {l xs ys : List AV} (h : FrzKs b l xs ys) : ∀ (i : Nat) (x y : AV), xs[i]? = some x → ys[i]? = some y → FrzK b l x y := by
  induction h with
  | nil => intro i x y hx; simp at hx
  | cons h k ih =>
    intro i x y hx hy
    cases i with
    | zero => simp at hx hy; subst hx hy; exact h
    | succ i => exact ih i x y (by simpa using hx) (by simpa using hy)
theorem SCall.gives {f : FuncId} {args args' : List AV} {R : AV → AHeap → Prop} {b : Nat} {l : List AV} (hb : H.get b = some (.cells l)) (hz : FrzKs b l args args') (h : SCall P f args' (H.kill b) R) : SCall P f args H R :=
  h.give hb hz.len hz.get

end
end Go.Proofs.Ytooaiddfokbffaa.E

/- Calls that turn one block. Conditions: none. -/
set_option linter.unusedVariables false
set_option linter.unusedSimpArgs false
namespace Go.Proofs.Ytooaiddfokbffaa.E
open Go
section
variable {P : Program} {H : AHeap}

theorem Ext.put {G : AHeap} {b : Nat} {o o' : AObj} (h : Ext (H.set b o) G) : Ext (H.set b o') (G.set b o') := ⟨h.1, fun x hx => by
  rw [set_get, set_get]
  by_cases hb : x = b
  · rw [if_pos hb, if_pos hb]
  · rw [if_neg hb, if_neg hb]
    have := h.2 x hx
    rwa [set_get, if_neg hb] at this⟩
theorem Ext.at {G : AHeap} {b : Nat} {o : AObj} (h : Ext (H.set b o) G) (hb : b < H.next) : G.get b = some o := by
  rw [h.2 b hb, set_get, if_pos rfl]
theorem cutB {c : ACode} {K M : ASt → Prop} {Q : AExit → ASt → Prop} {st : ASt} (h : swp P c (thenQ M Q) st) (hM : ∀ st', M st' → K st') : swp P c (thenQ K Q) st :=
  swp_mono c h fun x st' hx => by
    cases x with
    | normal => exact hM _ hx
    | ret => exact hx
    | exit id' => exact hx

theorem g_opG {st st' : ASt} {d t : Nat} {b : Bool} {o : AOp} : agO st st' (some (.op (some d) (some (t, b)) o)) = ((abool (st.tm t) == some b) = true → agK st st' d o (okind o)) := by
  apply propext
  simp only [agO, again, gOk]
  cases okind o <;> rfl

/-- What holds behind a block is told first. -/
theorem cutK {c : ACode} {id : Nat} {K M : ASt → Prop} {Q : AExit → ASt → Prop} {st : ASt} (h : swp P c (inBlockQ id (thenQ M Q)) st) (hM : ∀ st', M st' → K st') : swp P c (inBlockQ id (thenQ K Q)) st :=
  swp_mono c h fun x st' hx => by
    cases x with
    | normal => exact hM _ hx
    | ret => exact hx
    | exit id' =>
      simp only [inBlockQ] at hx ⊢
      split
      · rename_i hh; rw [if_pos hh] at hx; exact hM _ hx
      · rename_i hh; rw [if_neg hh] at hx; exact hx

end
end Go.Proofs.Ytooaiddfokbffaa.E

/- Levels, as the code asks them: numbers that are right. Conditions: none. -/
set_option linter.unusedVariables false
set_option linter.unusedSimpArgs false
namespace Go.Proofs.Ytooaiddfokbffaa.E
open Go Go.Proofs
attribute [local go_sem] s_seq s_ops s_draw s_block s_skip s_ret s_exit i_nil i_cons i_run i_runG s_condQ c_true c_false aop ev_t ev_c updO_at updO_no upd_at t_normal t_ret t_exit b_normal b_ret b_exit a_some ac_v ac_agg ac_ptr ac_slc ac_ro ac_rop ac_fn new_next set_next argTm_zero argTm_succ argTm_nil ab_bool ab_uv beq_self_eq_true Option.some_beq_some Bool.not_not beq_iff_eq decide_true decide_false Bool.not_true Bool.not_false afld aload astore apack alen_str alen_ro alen_slc alen_nil new_get set_get ite_true ite_false Option.map_some Option.bind_some ibin isShift Nat.add_zero Nat.zero_add List.length_cons List.length_nil List.drop_zero List.drop_succ_cons List.take_succ_cons List.take_zero if_true if_false setL List.set_cons_zero List.set_cons_succ List.all_cons List.all_nil one_int one_bool one_str one_nil one_ptr one_slc one_ro one_rop one_fn Bool.and_self Bool.and_true true_and and_true and_self Bool.false_eq_true post_ret post_normal resAll resOne packR Option.some.injEq exists_eq_left' List.map_cons List.map_nil List.nil_append List.append_nil List.cons_append d_nil d_cons k_nil k_cons g_op g_same g_new avBlock forall_eq' List.getElem?_cons_succ List.getElem?_cons_zero List.getElem?_nil okind gOk bne false_imp_iff forall_const imp_self implies_true true_imp_iff i_callG

def fineF (n : Int) : Bool := decide (n ≥ 0) && decide (n ≤ 1000)
def rightF (l : Lv) : Bool := fineF l.n && decide (l.vars.length ≤ 64) && l.vars.all fun v => fineF v.1 && fineF v.2

/-- A row of variables, as cells. -/
def varsC (vars : List (Int × Int)) : List AV := vars.flatMap fun v => [aint v.1, aint v.2]
theorem varsC_cons (v : Int × Int) (r : List (Int × Int)) : varsC (v :: r) = aint v.1 :: aint v.2 :: varsC r := rfl
theorem varsC_append (a b : List (Int × Int)) : varsC (a ++ b) = varsC a ++ varsC b := by simp [varsC]
theorem varsC_length (a : List (Int × Int)) : (varsC a).length = a.length * 2 := by
  induction a with
  | nil => rfl
  | cons v r ih => rw [varsC_cons]; simp only [List.length_cons, ih]; omega
theorem varsR_pre : ∀ (vars : List (Int × Int)) (x : List AV), VarsR vars (varsC vars ++ x)
  | [], x => trivial
  | (a, b) :: r, x => by
    simp only [VarsR, varsC_cons, List.cons_append, List.take_succ_cons, List.take_zero, List.drop_succ_cons, List.drop_zero, true_and]
    exact varsR_pre r x
theorem varsR_self (vars : List (Int × Int)) : VarsR vars (varsC vars) := by
  have := varsR_pre vars []
  rwa [List.append_nil] at this
theorem VarsR.pre : ∀ {vars : List (Int × Int)} {cs : List AV}, VarsR vars cs → cs.take (vars.length * 2) = varsC vars
  | [], _, _ => by simp [varsC]
  | (a, b) :: r, cs, h => by
    simp only [VarsR] at h
    have := VarsR.pre h.2
    rw [show ((a, b) :: r).length * 2 = 2 + r.length * 2 by simp; omega, List.take_add, h.1, this]
    rfl
theorem VarsR.len {vars : List (Int × Int)} {cs : List AV} (h : VarsR vars cs) : vars.length * 2 ≤ cs.length := by
  have := congrArg List.length h.pre
  rw [List.length_take, varsC_length] at this
  omega
theorem VarsR.at {vars : List (Int × Int)} {cs : List AV} (h : VarsR vars cs) {i : Nat} (hi : i < vars.length) : i * 2 + 2 ≤ cs.length ∧ (cs.drop (i * 2)).take 2 = [aint vars[i].1, aint vars[i].2] := by
  induction vars generalizing cs i with
  | nil => cases hi
  | cons v r ih =>
    have hl := h.len
    obtain ⟨a, b⟩ := v
    simp only [VarsR] at h
    simp only [List.length_cons] at hl hi
    cases i with
    | zero => exact ⟨by omega, by simpa using h.1⟩
    | succ i =>
      obtain ⟨h1, h2⟩ := ih h.2 (i := i) (by omega)
      rw [List.drop_drop] at h2
      rw [List.length_drop] at h1
      exact ⟨by omega, by rw [show (i + 1) * 2 = 2 + i * 2 by omega]; simpa using h2⟩

set_option maxRecDepth 100000 in
theorem fine_ok (n : Int) (H : AHeap) : SCall Try.prog 200 [aint n] H fun x H' => x = abl (fineF n) ∧ H' = H := by
  refine SCall.intro mixed cf200 ?_
  by_cases h1 : n ≥ 0
  · simp -implicitDefEqProofs only [c200, go_sem, Nat.reduceEqDiff, Nat.reduceAdd, Nat.reduceLeDiff, ↓reduceIte, reduceCtorEq, Int.reduceBEq, Int.reduceBNe, Int.reduceLT, Int.reduceLE, Int.reduceGT, Int.reduceGE, Int.reduceNeg, Int.reduceAdd, Int.reduceSub, Nat.reduceMul, Nat.reduceLT, Int.reduceToNat, h1]
    simp [fineF, h1]
  · simp -implicitDefEqProofs only [c200, go_sem, Nat.reduceEqDiff, Nat.reduceAdd, Nat.reduceLeDiff, ↓reduceIte, reduceCtorEq, Int.reduceBEq, Int.reduceBNe, Int.reduceLT, Int.reduceLE, Int.reduceGT, Int.reduceGE, Int.reduceNeg, Int.reduceAdd, Int.reduceSub, Nat.reduceMul, Nat.reduceLT, Int.reduceToNat, h1]
    simp [fineF, h1]

set_option maxRecDepth 100000 in
theorem number_ok (a b : Int) (H : AHeap) : SCall Try.prog 203 [.agg [aint a, aint b]] H fun x H' => x = aint a ∧ H' = H := by
  refine SCall.val (SCall.intro mixed cf203 ?_)
  simp -implicitDefEqProofs only [c203, go_sem, Nat.reduceEqDiff, Nat.reduceAdd, Nat.reduceLeDiff, ↓reduceIte, reduceCtorEq, Int.reduceBEq, Int.reduceBNe, Int.reduceLT, Int.reduceLE, Int.reduceGT, Int.reduceGE, Int.reduceNeg, Int.reduceAdd, Int.reduceSub, Nat.reduceMul, Nat.reduceLT, Int.reduceToNat]
  exact (Ext.refl H).new _

def greaterF (x y : Int × Int) : Int × Int := if x.2 < y.2 then y else x

set_option maxRecDepth 100000 in
theorem greater_ok (x y : Int × Int) (H : AHeap) : SCall Try.prog 204 [.agg [aint x.1, aint x.2], .agg [aint y.1, aint y.2]] H fun z H' => z = .agg [aint (greaterF x y).1, aint (greaterF x y).2] ∧ H' = H := by
  refine SCall.valO (.agg _ fun z hz => by simp at hz; rcases hz with rfl | rfl <;> exact .v _) (SCall.intro mixed cf204 ?_)
  have e1 : ¬ H.next + 1 + 1 = H.next := by omega
  have e2 : ¬ H.next + 1 = H.next := by omega
  have e3 : ¬ H.next = H.next + 1 := by omega
  have e4 : ¬ H.next = H.next + 1 + 1 := by omega
  have e5 : ¬ H.next + 1 = H.next + 1 + 1 := by omega
  have e6 : ¬ H.next + 1 + 1 = H.next + 1 := by omega
  by_cases h1 : x.2 < y.2
  · simp -implicitDefEqProofs only [c204, go_sem, Nat.reduceEqDiff, Nat.reduceAdd, Nat.reduceLeDiff, ↓reduceIte, reduceCtorEq, Int.reduceBEq, Int.reduceBNe, Int.reduceLT, Int.reduceLE, Int.reduceGT, Int.reduceGE, Int.reduceNeg, Int.reduceAdd, Int.reduceSub, Nat.reduceMul, Nat.reduceLT, Int.reduceToNat, h1, e1, e2, e3, e4, e5, e6]
    exact ⟨by simp [greaterF, h1], ((((Ext.refl H).new _).new _).new _).set (by omega) _⟩
  · simp -implicitDefEqProofs only [c204, go_sem, Nat.reduceEqDiff, Nat.reduceAdd, Nat.reduceLeDiff, ↓reduceIte, reduceCtorEq, Int.reduceBEq, Int.reduceBNe, Int.reduceLT, Int.reduceLE, Int.reduceGT, Int.reduceGE, Int.reduceNeg, Int.reduceAdd, Int.reduceSub, Nat.reduceMul, Nat.reduceLT, Int.reduceToNat, h1, e1, e2, e3, e4, e5, e6]
    exact ⟨by simp [greaterF, h1], ((((Ext.refl H).new _).new _).new _).set (by omega) _⟩

set_option maxRecDepth 100000 in
theorem right_ok (l : Lv) (vx : AV) (vs : List AV) (h1 : SlR l.vars.length vx vs) (h2 : VarsR l.vars vs) (hn : l.vars.length ≤ 4611686018427387904) (H : AHeap) :
    SCall Try.prog 179 [.agg [aint l.n, vx]] H fun x H' => x = abl (rightF l) ∧ H' = H := by
  refine SCall.val (SCall.intro mixed cf179 ?_)
  simp -implicitDefEqProofs only [c179, go_sem, Nat.reduceEqDiff, Nat.reduceAdd, Nat.reduceLeDiff, ↓reduceIte, reduceCtorEq, Int.reduceBEq, Int.reduceBNe, Int.reduceLT, Int.reduceLE, Int.reduceGT, Int.reduceGE, Int.reduceNeg, Int.reduceAdd, Int.reduceSub, Nat.reduceMul, Nat.reduceLT, Int.reduceToNat, h1.one, h1.cells, fun H => h1.alen H]
  refine i_callA (fs := []) (cs := []) ?_ ?_ (fine_ok l.n _) ?_
  · rfl
  · simp -implicitDefEqProofs only [go_sem, Nat.reduceEqDiff, Nat.reduceAdd, Nat.reduceLeDiff, ↓reduceIte, reduceCtorEq, Int.reduceBEq, Int.reduceBNe, Int.reduceLT, Int.reduceLE, Int.reduceGT, Int.reduceGE, Int.reduceNeg, Int.reduceAdd, Int.reduceSub, Nat.reduceMul, Nat.reduceLT, Int.reduceToNat]
  rintro x H3 ⟨rfl, rfl⟩
  cases hf : fineF l.n with
  | false =>
    simp -implicitDefEqProofs only [go_sem, Nat.reduceEqDiff, Nat.reduceAdd, Nat.reduceLeDiff, ↓reduceIte, reduceCtorEq, Int.reduceBEq, Int.reduceBNe, Int.reduceLT, Int.reduceLE, Int.reduceGT, Int.reduceGE, Int.reduceNeg, Int.reduceAdd, Int.reduceSub, Nat.reduceMul, Nat.reduceLT, Int.reduceToNat]
    exact ⟨by simp [rightF, hf], (Ext.refl H).new _⟩
  | true =>
  by_cases h64 : (l.vars.length : Int) > 64
  · simp -implicitDefEqProofs only [go_sem, Nat.reduceEqDiff, Nat.reduceAdd, Nat.reduceLeDiff, ↓reduceIte, reduceCtorEq, Int.reduceBEq, Int.reduceBNe, Int.reduceLT, Int.reduceLE, Int.reduceGT, Int.reduceGE, Int.reduceNeg, Int.reduceAdd, Int.reduceSub, Nat.reduceMul, Nat.reduceLT, Int.reduceToNat, fun H => h1.alen H, h64]
    exact ⟨by simp [rightF, hf]; omega, (Ext.refl H).new _⟩
  have hR : rightF l = l.vars.all fun v => fineF v.1 && fineF v.2 := by
    simp only [rightF, hf, Bool.true_and]
    rw [decide_eq_true (by omega), Bool.true_and]
  simp -implicitDefEqProofs only [go_sem, Nat.reduceEqDiff, Nat.reduceAdd, Nat.reduceLeDiff, ↓reduceIte, reduceCtorEq, Int.reduceBEq, Int.reduceBNe, Int.reduceLT, Int.reduceLE, Int.reduceGT, Int.reduceGE, Int.reduceNeg, Int.reduceAdd, Int.reduceSub, Nat.reduceMul, Nat.reduceLT, Int.reduceToNat, fun H => h1.alen H, h64]
  refine swp_range l.vars.length (fun i st => st.tm 16 = vx ∧ st.tm 17 = aint l.vars.length ∧ st.tm 18 = aint i ∧ Ext H st.heap ∧ rightF l = (l.vars.drop i).all fun v => fineF v.1 && fineF v.2) ?_ ?_ ?_
  · exact ⟨rfl, rfl, rfl, (Ext.refl H).new _, by rw [hR]; rfl⟩
  · rintro i ⟨tm, H2⟩ hi ⟨h16, h17, h18, hE, hr⟩
    simp only at h16 h17 h18 hE
    have hltI : (i : Int) < (l.vars.length : Int) := by omega
    have hix := h1.aix 2 hi
    obtain ⟨hle, hld⟩ := h2.at hi
    have w3 : IntKind.i64.wrap ((i : Int) + 1) = (i : Int) + 1 := i64_ok _ (by omega)
    have hdrop : l.vars.drop i = l.vars[i] :: l.vars.drop (i + 1) := List.drop_eq_getElem_cons hi
    rw [hdrop, List.all_cons] at hr
    simp -implicitDefEqProofs only [go_sem, Nat.reduceEqDiff, Nat.reduceAdd, Nat.reduceLeDiff, ↓reduceIte, reduceCtorEq, Int.reduceBEq, Int.reduceBNe, Int.reduceLT, Int.reduceLE, Int.reduceGT, Int.reduceGE, Int.reduceNeg, Int.reduceAdd, Int.reduceSub, Nat.reduceMul, Nat.reduceLT, Int.reduceToNat, h16, h17, h18, hltI, hix, hle, hld]
    refine i_callA (fs := []) (cs := []) ?_ ?_ (fine_ok l.vars[i].1 _) ?_
    · rfl
    · simp -implicitDefEqProofs only [go_sem, Nat.reduceEqDiff, Nat.reduceAdd, Nat.reduceLeDiff, ↓reduceIte, reduceCtorEq, Int.reduceBEq, Int.reduceBNe, Int.reduceLT, Int.reduceLE, Int.reduceGT, Int.reduceGE, Int.reduceNeg, Int.reduceAdd, Int.reduceSub, Nat.reduceMul, Nat.reduceLT, Int.reduceToNat]
    rintro x H3 ⟨rfl, rfl⟩
    cases hf1 : fineF l.vars[i].1 with
    | false =>
      simp -implicitDefEqProofs only [go_sem, Nat.reduceEqDiff, Nat.reduceAdd, Nat.reduceLeDiff, ↓reduceIte, reduceCtorEq, Int.reduceBEq, Int.reduceBNe, Int.reduceLT, Int.reduceLE, Int.reduceGT, Int.reduceGE, Int.reduceNeg, Int.reduceAdd, Int.reduceSub, Nat.reduceMul, Nat.reduceLT, Int.reduceToNat]
      exact ⟨by rw [hr, hf1]; rfl, (hE.new _).set hE.1 _⟩
    | true =>
    simp -implicitDefEqProofs only [go_sem, Nat.reduceEqDiff, Nat.reduceAdd, Nat.reduceLeDiff, ↓reduceIte, reduceCtorEq, Int.reduceBEq, Int.reduceBNe, Int.reduceLT, Int.reduceLE, Int.reduceGT, Int.reduceGE, Int.reduceNeg, Int.reduceAdd, Int.reduceSub, Nat.reduceMul, Nat.reduceLT, Int.reduceToNat]
    refine i_callA (fs := []) (cs := []) ?_ ?_ (fine_ok l.vars[i].2 _) ?_
    · rfl
    · simp -implicitDefEqProofs only [go_sem, Nat.reduceEqDiff, Nat.reduceAdd, Nat.reduceLeDiff, ↓reduceIte, reduceCtorEq, Int.reduceBEq, Int.reduceBNe, Int.reduceLT, Int.reduceLE, Int.reduceGT, Int.reduceGE, Int.reduceNeg, Int.reduceAdd, Int.reduceSub, Nat.reduceMul, Nat.reduceLT, Int.reduceToNat]
    rintro x H3 ⟨rfl, rfl⟩
    cases hf2 : fineF l.vars[i].2 with
    | false =>
      simp -implicitDefEqProofs only [go_sem, Nat.reduceEqDiff, Nat.reduceAdd, Nat.reduceLeDiff, ↓reduceIte, reduceCtorEq, Int.reduceBEq, Int.reduceBNe, Int.reduceLT, Int.reduceLE, Int.reduceGT, Int.reduceGE, Int.reduceNeg, Int.reduceAdd, Int.reduceSub, Nat.reduceMul, Nat.reduceLT, Int.reduceToNat]
      exact ⟨by rw [hr, hf1, hf2]; rfl, (hE.new _).set hE.1 _⟩
    | true =>
      simp -implicitDefEqProofs only [go_sem, Nat.reduceEqDiff, Nat.reduceAdd, Nat.reduceLeDiff, ↓reduceIte, reduceCtorEq, Int.reduceBEq, Int.reduceBNe, Int.reduceLT, Int.reduceLE, Int.reduceGT, Int.reduceGE, Int.reduceNeg, Int.reduceAdd, Int.reduceSub, Nat.reduceMul, Nat.reduceLT, Int.reduceToNat, h18, w3]
      exact ⟨h16, h17, by simp, (hE.new _).set hE.1 _, by rw [hr, hf1, hf2]; rfl⟩
  · rintro ⟨tm, H2⟩ ⟨h16, h17, h18, hE, hr⟩
    simp only at h16 h17 h18 hE
    simp -implicitDefEqProofs only [go_sem, Nat.reduceEqDiff, Nat.reduceAdd, Nat.reduceLeDiff, ↓reduceIte, reduceCtorEq, Int.reduceBEq, Int.reduceBNe, Int.reduceLT, Int.reduceLE, Int.reduceGT, Int.reduceGE, Int.reduceNeg, Int.reduceAdd, Int.reduceSub, Nat.reduceMul, Nat.reduceLT, Int.reduceToNat, h16, h17, h18, Int.lt_irrefl]
    exact ⟨by rw [hr]; simp, hE⟩

set_option maxRecDepth 100000 in
theorem equal_ok (a b : List (Int × Int)) (ax bx : AV) (ca cb : List AV) (ha : SlR a.length ax ca) (ha' : VarsR a ca) (hb : SlR b.length bx cb) (hb' : VarsR b cb) (hn : a.length ≤ 4611686018427387904) (H : AHeap) :
    SCall Try.prog 176 [ax, bx] H fun x H' => x = abl (decide (a = b)) ∧ H' = H := by
  refine SCall.val (SCall.intro mixed cf176 ?_)
  by_cases hl : a.length = b.length
  case neg =>
    have h1 : ((a.length : Int) == (b.length : Int)) = false := by rw [beq_eq_false_iff_ne]; omega
    simp -implicitDefEqProofs only [c176, go_sem, Nat.reduceEqDiff, Nat.reduceAdd, Nat.reduceLeDiff, ↓reduceIte, reduceCtorEq, Int.reduceBEq, Int.reduceBNe, Int.reduceLT, Int.reduceLE, Int.reduceGT, Int.reduceGE, Int.reduceNeg, Int.reduceAdd, Int.reduceSub, Nat.reduceMul, Nat.reduceLT, Int.reduceToNat, fun H => ha.alen H, fun H => hb.alen H, h1]
    exact ⟨by rw [decide_eq_false]; intro h; rw [h] at hl; exact hl rfl, Ext.refl H⟩
  have h1 : ((a.length : Int) == (b.length : Int)) = true := by rw [beq_iff_eq]; omega
  simp -implicitDefEqProofs only [c176, go_sem, Nat.reduceEqDiff, Nat.reduceAdd, Nat.reduceLeDiff, ↓reduceIte, reduceCtorEq, Int.reduceBEq, Int.reduceBNe, Int.reduceLT, Int.reduceLE, Int.reduceGT, Int.reduceGE, Int.reduceNeg, Int.reduceAdd, Int.reduceSub, Nat.reduceMul, Nat.reduceLT, Int.reduceToNat, fun H => ha.alen H, fun H => hb.alen H, h1]
  refine swp_range a.length (fun i st => st.tm 0 = ax ∧ st.tm 1 = bx ∧ st.tm 12 = aint a.length ∧ st.tm 13 = aint i ∧ Ext H st.heap ∧ (a = b ↔ a.drop i = b.drop i)) ?_ ?_ ?_
  · exact ⟨rfl, rfl, rfl, rfl, Ext.refl H, by simp⟩
  · rintro i ⟨tm, H2⟩ hi ⟨h0, h1', h12, h13, hE, hr⟩
    simp only at h0 h1' h12 h13 hE
    have hltI : (i : Int) < (a.length : Int) := by omega
    have hix := ha.aix 2 hi
    have hix' := hb.aix 2 (i := i) (by omega)
    obtain ⟨hle, hld⟩ := ha'.at hi
    obtain ⟨hle', hld'⟩ := hb'.at (i := i) (by omega)
    have w3 : IntKind.i64.wrap ((i : Int) + 1) = (i : Int) + 1 := i64_ok _ (by omega)
    have hdrop : a.drop i = a[i] :: a.drop (i + 1) := List.drop_eq_getElem_cons hi
    have hdrop' : b.drop i = b[i] :: b.drop (i + 1) := List.drop_eq_getElem_cons (by omega)
    rw [hdrop, hdrop'] at hr
    by_cases he : a[i] = b[i]
    · have e1 : (a[i].1 == b[i].1) = true := by rw [he]; simp
      have e2 : (a[i].2 == b[i].2) = true := by rw [he]; simp
      simp -implicitDefEqProofs only [go_sem, Nat.reduceEqDiff, Nat.reduceAdd, Nat.reduceLeDiff, ↓reduceIte, reduceCtorEq, Int.reduceBEq, Int.reduceBNe, Int.reduceLT, Int.reduceLE, Int.reduceGT, Int.reduceGE, Int.reduceNeg, Int.reduceAdd, Int.reduceSub, Nat.reduceMul, Nat.reduceLT, Int.reduceToNat, h0, h1', h12, h13, hltI, hix, hix', hle, hld, hle', hld', aeqs, e1, e2, w3]
      exact ⟨by simp, hE, by rw [hr, he, List.cons.injEq]; simp⟩
    · have e1 : (a[i].1 == b[i].1 && a[i].2 == b[i].2) = false := by
        rw [Bool.eq_false_iff]
        intro hh
        simp only [Bool.and_eq_true, beq_iff_eq] at hh
        exact he (Prod.ext hh.1 hh.2)
      simp -implicitDefEqProofs only [go_sem, Nat.reduceEqDiff, Nat.reduceAdd, Nat.reduceLeDiff, ↓reduceIte, reduceCtorEq, Int.reduceBEq, Int.reduceBNe, Int.reduceLT, Int.reduceLE, Int.reduceGT, Int.reduceGE, Int.reduceNeg, Int.reduceAdd, Int.reduceSub, Nat.reduceMul, Nat.reduceLT, Int.reduceToNat, h0, h1', h12, h13, hltI, hix, hix', hle, hld, hle', hld', aeqs, e1, w3]
      exact ⟨by rw [decide_eq_false]; intro h; exact he (List.cons.inj (hr.1 h)).1, hE⟩
  · rintro ⟨tm, H2⟩ ⟨h0, h1', h12, h13, hE, hr⟩
    simp only at h0 h1' h12 h13 hE
    simp -implicitDefEqProofs only [go_sem, Nat.reduceEqDiff, Nat.reduceAdd, Nat.reduceLeDiff, ↓reduceIte, reduceCtorEq, Int.reduceBEq, Int.reduceBNe, Int.reduceLT, Int.reduceLE, Int.reduceGT, Int.reduceGE, Int.reduceNeg, Int.reduceAdd, Int.reduceSub, Nat.reduceMul, Nat.reduceLT, Int.reduceToNat, h12, h13, Int.lt_irrefl]
    exact ⟨by rw [decide_eq_true]; rw [hr, List.drop_length, hl, List.drop_length], hE⟩
end Go.Proofs.Ytooaiddfokbffaa.E

/- Rows of variables that rise, joined: as the code does it. Conditions: none. -/
set_option linter.unusedVariables false
set_option linter.unusedSimpArgs false
namespace Go.Proofs.Ytooaiddfokbffaa.E
open Go Go.Proofs
attribute [local go_sem] s_seq s_ops s_draw s_block s_skip s_ret s_exit i_nil i_cons i_run i_runG s_condQ c_true c_false aop ev_t ev_c updO_at updO_no upd_at t_normal t_ret t_exit b_normal b_ret b_exit a_some ac_v ac_agg ac_ptr ac_slc ac_ro ac_rop ac_fn new_next set_next argTm_zero argTm_succ argTm_nil ab_bool ab_uv beq_self_eq_true Option.some_beq_some Bool.not_not beq_iff_eq decide_true decide_false Bool.not_true Bool.not_false afld aload astore apack alen_str alen_ro alen_slc alen_nil new_get set_get ite_true ite_false Option.map_some Option.bind_some ibin isShift Nat.add_zero Nat.zero_add List.length_cons List.length_nil List.drop_zero List.drop_succ_cons List.take_succ_cons List.take_zero if_true if_false setL List.set_cons_zero List.set_cons_succ List.all_cons List.all_nil one_int one_bool one_str one_nil one_ptr one_slc one_ro one_rop one_fn Bool.and_self Bool.and_true true_and and_true and_self Bool.false_eq_true post_ret post_normal resAll resOne packR Option.some.injEq exists_eq_left' List.map_cons List.map_nil List.nil_append List.append_nil List.cons_append d_nil d_cons k_nil k_cons g_op g_same g_new avBlock forall_eq' List.getElem?_cons_succ List.getElem?_cons_zero List.getElem?_nil okind gOk bne false_imp_iff forall_const imp_self implies_true true_imp_iff i_callG

theorem SlR.tail {n : Nat} {x : AV} {cs : List AV} (h : SlR (n + 1) x cs) (es : Nat) : ∃ y cs', aslice es x (some 1) none none = some y ∧ SlR n y cs' ∧ (n = 0 ∨ cs' = cs.drop es) := by
  rcases h with ⟨h, _⟩ | ⟨lo, ex, rfl, hlo⟩
  · omega
  · have hc : acut (max (n + 1) lo) ex (n + 1) (some 1) none none = some (1, n + 1, max (n + 1) lo - 1, ex) := by
      simp only [acut, Option.getD_some, Option.getD_none]
      rw [if_pos (by omega)]
    simp only [aslice, hc]
    by_cases h0 : 0 < max (n + 1) lo - 1
    · rw [if_pos h0]
      exact ⟨_, _, rfl, .inr ⟨_, _, rfl, by omega⟩, .inr (by rw [Nat.one_mul])⟩
    · rw [if_neg h0]
      exact ⟨_, _, rfl, .inr ⟨0, ex, by rw [show n = 0 by omega], by omega⟩, .inl (by omega)⟩

theorem VarsR.tail {v : Int × Int} {r : List (Int × Int)} {cs cs' : List AV} (h : VarsR (v :: r) cs) (hc : r.length = 0 ∨ cs' = cs.drop 2) : VarsR r cs' := by
  obtain ⟨a, b⟩ := v
  simp only [VarsR] at h
  rcases hc with hc | rfl
  · rw [List.length_eq_zero_iff.1 hc]; trivial
  · exact h.2

theorem varsC_old (n : Nat) (vars : List (Int × Int)) : ∀ y ∈ varsC vars, Old n y := by
  intro y hy
  simp only [varsC, List.mem_flatMap] at hy
  obtain ⟨v, _, hv⟩ := hy
  simp at hv
  rcases hv with rfl | rfl <;> exact .v _
theorem varsC_one (vars : List (Int × Int)) : (varsC vars).all AV.one = true := by
  rw [List.all_eq_true]
  intro y hy
  simp only [varsC, List.mem_flatMap] at hy
  obtain ⟨v, _, hv⟩ := hy
  simp at hv
  rcases hv with rfl | rfl <;> rfl

/-- A row of variables that leads to no block. -/
def SlV (vars : List (Int × Int)) (x : AV) : Prop := (∃ cs, SlR vars.length x cs ∧ VarsR vars cs) ∧ Old 0 x
theorem SlV.of {vars : List (Int × Int)} {y : AV} (h : (vars.length = 0 ∧ y = .v (.slice none 0 0)) ∨ ∃ lo ex, y = .ro vars.length lo ex (varsC vars) ∧ vars.length ≤ lo) : SlV vars y := by
  refine ⟨⟨_, h, varsR_self _⟩, ?_⟩
  rcases h with ⟨_, rfl⟩ | ⟨lo, ex, rfl, _⟩
  · exact .v _
  · exact .ro _ _ _ _ (varsC_old 0 _)

def joinF : List (Int × Int) → List (Int × Int) → List (Int × Int)
  | [], b => b
  | x :: a, [] => x :: a
  | x :: a, y :: b => if x.1 < y.1 then x :: joinF a (y :: b) else if y.1 < x.1 then y :: joinF (x :: a) b else greaterF x y :: joinF a b
termination_by a b => a.length + b.length

theorem joinF_len (a b : List (Int × Int)) : (joinF a b).length ≤ a.length + b.length := by
  induction a, b using joinF.induct with
  | case1 b => simp [joinF]
  | case2 x a => simp [joinF]
  | case3 x a y b h ih => rw [joinF, if_pos h]; simp at ih ⊢; omega
  | case4 x a y b h1 h2 ih => rw [joinF, if_neg h1, if_pos h2]; simp at ih ⊢; omega
  | case5 x a y b h1 h2 ih => rw [joinF, if_neg h1, if_neg h2]; simp at ih ⊢; omega

set_option maxRecDepth 100000 in
theorem joined_ok (a b : List (Int × Int)) (ax bx : AV) (ca cb : List AV) (ha : SlR a.length ax ca) (ha' : VarsR a ca) (hb : SlR b.length bx cb) (hb' : VarsR b cb) (hn : a.length + b.length ≤ 1000000) (H : AHeap) :
    SCall Try.prog 202 [ax, bx, .fn (.func 203) [] [], .fn (.func 204) [] []] H fun x H' => SlV (joinF a b) x ∧ H' = H := by
  have main : SCall Try.prog 202 [ax, bx, .fn (.func 203) [] [], .fn (.func 204) [] []] H fun x H' => Ext H H' ∧ OutS H' H.next 2 (joinF a b).length (varsC (joinF a b)) x := by
    refine SCall.intro mixed cf202 ?_
    simp -implicitDefEqProofs only [c202, go_sem, Nat.reduceEqDiff, Nat.reduceAdd, Nat.reduceLeDiff, ↓reduceIte, reduceCtorEq, Int.reduceBEq, Int.reduceBNe, Int.reduceLT, Int.reduceLE, Int.reduceGT, Int.reduceGE, Int.reduceNeg, Int.reduceAdd, Int.reduceSub, Nat.reduceMul, Nat.reduceLT, Int.reduceToNat]
    refine swp_loop (fun k st => ∃ (o a' b' : List (Int × Int)) (x0 x1 x9 : AV) (c0 c1 : List AV), k = a'.length + b'.length ∧ joinF a b = o ++ joinF a' b' ∧ o.length + a'.length + b'.length ≤ 1000000 ∧
      SlR a'.length x0 c0 ∧ VarsR a' c0 ∧ SlR b'.length x1 c1 ∧ VarsR b' c1 ∧ OutS st.heap H.next 2 o.length (varsC o) x9 ∧ Ext H st.heap ∧
      st.tm 0 = x0 ∧ st.tm 1 = x1 ∧ st.tm 2 = .fn (.func 203) [] [] ∧ st.tm 3 = .fn (.func 204) [] [] ∧ st.tm 9 = x9) (k := a.length + b.length) ?_ ?_
    · exact ⟨[], a, b, ax, bx, _, ca, cb, rfl, rfl, by simpa using hn, ha, ha', hb, hb', OutS.nil, Ext.refl H, rfl, rfl, rfl, rfl, rfl⟩
    rintro k ⟨tm, H2⟩ ⟨o, a', b', x0, x1, x9, c0, c1, rfl, hj, hlen, h0, h0', h1, h1', hO, hE, t0, t1, t2, t3, t9⟩
    simp only at hO hE t0 t1 t2 t3 t9
    have fin : ∀ tm : Nat → AV, tm 1 = x1 → (a' = [] ∨ b' = []) → after (swpI Try.prog [(.op (some 72) none (.move (.t 1))), (.op (some 73) none (.append 2 16 (.t 71) (.t 72))), (.op (some 8) none (.move (.t 73)))]
        (thenQ (swp Try.prog .ret (postF [(.t 8)] fun x H' => Ext H H' ∧ OutS H' H.next 2 (joinF a b).length (varsC (joinF a b)) x)) (postF [(.t 8)] fun x H' => Ext H H' ∧ OutS H' H.next 2 (joinF a b).length (varsC (joinF a b)) x) .normal)) tm (some 71) (aappend H2 2 16 x9 x0) := by
      intro tm e1 hem
      have src : ∀ (G : AHeap) (r : List (Int × Int)) (x : AV) (c : List AV), SlR r.length x c → VarsR r c → asrc G 2 x = some (r.length, varsC r) := by
        intro G r x c q1 q2
        rcases q1 with ⟨q, rfl⟩ | ⟨lo, ex, rfl, q⟩
        · rw [List.length_eq_zero_iff.1 q]; rfl
        · simp only [asrc]
          rw [if_pos q2.len, q2.pre]
      have app : ∀ (G : AHeap) (o r : List (Int × Int)) (x y : AV) (c : List AV) (K : ASt → Prop) (tm : Nat → AV) (d : Option Nat), OutS G H.next 2 o.length (varsC o) x → Ext H G → SlR r.length y c → VarsR r c → o.length + r.length ≤ 1000000 →
          (∀ x' G', OutS G' H.next 2 (o ++ r).length (varsC (o ++ r)) x' → Ext H G' → K ⟨updO tm d x', G'⟩) → after K tm d (aappend G 2 16 x y) := by
        intro G o r x y c K tm d q1 qE q2 q3 q4 q5
        cases r with
        | nil =>
          refine q1.step0 (src G [] y c q2 q3) (by omega) (q5 _ _ ?_ qE)
          rw [List.append_nil]; exact q1
        | cons v r =>
          refine q1.step (src G _ y c q2 q3) (varsC_one _) (by simp) (by omega) ⟨by omega, by omega⟩ (varsC_length _) qE.1 fun x' G' q6 q7 q8 => q5 _ _ ?_ ⟨Nat.le_trans qE.1 q7, fun b hb => ?_⟩
          · rw [List.length_append, varsC_append]; exact q6
          · rw [q8 b (Nat.lt_of_lt_of_le hb qE.1) (fun off es' n' lo ex hx => ?_), qE.2 b hb]
            rcases q1 with ⟨_, _, rfl⟩ | ⟨b0, g1, g2, rfl, g3⟩
            · cases hx
            · injection hx with hx; omega
      have hj2 : joinF a b = o ++ (a' ++ b') := by
        rw [hj]
        rcases hem with rfl | rfl
        · simp [joinF]
        · cases a' <;> simp [joinF]
      refine app _ o a' _ _ c0 _ _ _ hO hE h0 h0' (by omega) ?_
      intro x' G' hO' hE'
      simp -implicitDefEqProofs only [go_sem, Nat.reduceEqDiff, Nat.reduceAdd, Nat.reduceLeDiff, ↓reduceIte, reduceCtorEq, Int.reduceBEq, Int.reduceBNe, Int.reduceLT, Int.reduceLE, Int.reduceGT, Int.reduceGE, Int.reduceNeg, Int.reduceAdd, Int.reduceSub, Nat.reduceMul, Nat.reduceLT, Int.reduceToNat, e1]
      refine app _ (o ++ a') b' _ _ c1 _ _ _ hO' hE' h1 h1' (by simp; omega) ?_
      intro x2 G2 hO2 hE2
      simp -implicitDefEqProofs only [go_sem, Nat.reduceEqDiff, Nat.reduceAdd, Nat.reduceLeDiff, ↓reduceIte, reduceCtorEq, Int.reduceBEq, Int.reduceBNe, Int.reduceLT, Int.reduceLE, Int.reduceGT, Int.reduceGE, Int.reduceNeg, Int.reduceAdd, Int.reduceSub, Nat.reduceMul, Nat.reduceLT, Int.reduceToNat]
      exact ⟨hE2, by rw [hj2, ← List.append_assoc]; exact hO2⟩
    cases a' with
    | nil =>
      have q0 : ¬ ((0 : Nat) : Int) > 0 := by omega
      simp only [List.length_nil] at h0
      simp -implicitDefEqProofs only [go_sem, Nat.reduceEqDiff, Nat.reduceAdd, Nat.reduceLeDiff, ↓reduceIte, reduceCtorEq, Int.reduceBEq, Int.reduceBNe, Int.reduceLT, Int.reduceLE, Int.reduceGT, Int.reduceGE, Int.reduceNeg, Int.reduceAdd, Int.reduceSub, Nat.reduceMul, Nat.reduceLT, Int.reduceToNat, t0, t1, t2, t3, t9, fun H => h0.alen H, fun H => h1.alen H, q0]
      exact fin _ (by simp -implicitDefEqProofs only [go_sem, Nat.reduceEqDiff, Nat.reduceAdd, Nat.reduceLeDiff, ↓reduceIte, reduceCtorEq, Int.reduceBEq, Int.reduceBNe, Int.reduceLT, Int.reduceLE, Int.reduceGT, Int.reduceGE, Int.reduceNeg, Int.reduceAdd, Int.reduceSub, Nat.reduceMul, Nat.reduceLT, Int.reduceToNat, t1]) (.inl rfl)
    | cons u a2 =>
    have q0 : ((a2.length + 1 : Nat) : Int) > 0 := by omega
    simp only [List.length_cons] at h0
    cases b' with
    | nil =>
      have q1 : ¬ ((0 : Nat) : Int) > 0 := by omega
      simp only [List.length_nil] at h1
      simp -implicitDefEqProofs only [go_sem, Nat.reduceEqDiff, Nat.reduceAdd, Nat.reduceLeDiff, ↓reduceIte, reduceCtorEq, Int.reduceBEq, Int.reduceBNe, Int.reduceLT, Int.reduceLE, Int.reduceGT, Int.reduceGE, Int.reduceNeg, Int.reduceAdd, Int.reduceSub, Nat.reduceMul, Nat.reduceLT, Int.reduceToNat, t0, t1, t2, t3, t9, fun H => h0.alen H, fun H => h1.alen H, q0, q1]
      exact fin _ (by simp -implicitDefEqProofs only [go_sem, Nat.reduceEqDiff, Nat.reduceAdd, Nat.reduceLeDiff, ↓reduceIte, reduceCtorEq, Int.reduceBEq, Int.reduceBNe, Int.reduceLT, Int.reduceLE, Int.reduceGT, Int.reduceGE, Int.reduceNeg, Int.reduceAdd, Int.reduceSub, Nat.reduceMul, Nat.reduceLT, Int.reduceToNat, t1]) (.inr rfl)
    | cons v b2 =>
    have q1 : ((b2.length + 1 : Nat) : Int) > 0 := by omega
    simp only [List.length_cons] at h1 hlen
    have hix0 := h0.aix 2 (i := 0) (by omega)
    have hix1 := h1.aix 2 (i := 0) (by omega)
    obtain ⟨hle0, hld0⟩ := h0'.at (i := 0) (by simp)
    obtain ⟨hle1, hld1⟩ := h1'.at (i := 0) (by simp)
    obtain ⟨y0, d0, hs0, hy0, hd0⟩ := h0.tail 2
    obtain ⟨y1, d1, hs1, hy1, hd1⟩ := h1.tail 2
    have hv0 := h0'.tail hd0
    have hv1 := h1'.tail hd1
    simp only [Nat.zero_mul, Nat.zero_add, List.drop_zero, Int.natCast_zero, Int.ofNat_zero, Int.ofNat_eq_natCast, Int.cast_ofNat_Int, List.getElem_cons_zero] at hix0 hix1 hle0 hld0 hle1 hld1
    have p0 : 2 ≤ c0.length := by omega
    have p1 : 2 ≤ c1.length := by omega
    have i1 : (0 : Int) ≤ 1 := by omega
    have i2 : (1 : Int).toNat = 1 := rfl
    have hHb : H.next ≤ H2.next := hE.1
    -- one more
    have more : ∀ (z : Int × Int) (K : ASt → Prop) (tm : Nat → AV) (d : Option Nat), (∀ x' G', OutS G' H.next 2 (o ++ [z]).length (varsC (o ++ [z])) x' → Ext H G' → K ⟨updO tm d x', G'⟩) →
        after K tm d (aappend (H2.new (.cells [aint z.1, aint z.2])) 2 16 x9 (.slc H2.next 0 2 1 1 true)) := by
      intro z K tm d hk
      refine (hO.new _).step (m := 1) (new := [aint z.1, aint z.2]) (asrc_slc (c := [aint z.1, aint z.2]) (by rw [new_get, if_pos rfl]) (by simp)) rfl (by omega) (by omega) ⟨by omega, by omega⟩ rfl (by rw [new_next]; omega) fun x' G' q6 q7 q8 => hk _ _ ?_ ⟨Nat.le_trans (Nat.le_trans hHb (Nat.le_succ _)) q7, fun b hb => ?_⟩
      · rw [List.length_append, varsC_append]; exact q6
      · rw [q8 b (by rw [new_next]; omega) (fun off es' n' lo ex hx => ?_), new_get, if_neg (by omega), hE.2 b hb]
        rcases hO with ⟨_, _, rfl⟩ | ⟨b0, g1, g2, rfl, g3⟩
        · cases hx
        · injection hx with hx; omega
    simp -implicitDefEqProofs only [go_sem, Nat.reduceEqDiff, Nat.reduceAdd, Nat.reduceLeDiff, ↓reduceIte, reduceCtorEq, Int.reduceBEq, Int.reduceBNe, Int.reduceLT, Int.reduceLE, Int.reduceGT, Int.reduceGE, Int.reduceNeg, Int.reduceAdd, Int.reduceSub, Nat.reduceMul, Nat.reduceLT, Int.reduceToNat, t0, t1, t2, t3, t9, fun H => h0.alen H, fun H => h1.alen H, q0, q1, hix0, hix1, p0, p1, hld0, hld1]
    refine i_callA (fs := []) (cs := []) (fid := 203) ?_ ?_ (number_ok u.1 u.2 _) ?_
    · rfl
    · simp -implicitDefEqProofs only [go_sem, Nat.reduceEqDiff, Nat.reduceAdd, Nat.reduceLeDiff, ↓reduceIte, reduceCtorEq, Int.reduceBEq, Int.reduceBNe, Int.reduceLT, Int.reduceLE, Int.reduceGT, Int.reduceGE, Int.reduceNeg, Int.reduceAdd, Int.reduceSub, Nat.reduceMul, Nat.reduceLT, Int.reduceToNat]
    rintro x H3 ⟨rfl, rfl⟩
    simp -implicitDefEqProofs only [go_sem, Nat.reduceEqDiff, Nat.reduceAdd, Nat.reduceLeDiff, ↓reduceIte, reduceCtorEq, Int.reduceBEq, Int.reduceBNe, Int.reduceLT, Int.reduceLE, Int.reduceGT, Int.reduceGE, Int.reduceNeg, Int.reduceAdd, Int.reduceSub, Nat.reduceMul, Nat.reduceLT, Int.reduceToNat, t0, t1, t2, t3, t9, hix0, hix1, p0, p1, hld0, hld1]
    refine i_callA (fs := []) (cs := []) (fid := 203) ?_ ?_ (number_ok v.1 v.2 _) ?_
    · rfl
    · simp -implicitDefEqProofs only [go_sem, Nat.reduceEqDiff, Nat.reduceAdd, Nat.reduceLeDiff, ↓reduceIte, reduceCtorEq, Int.reduceBEq, Int.reduceBNe, Int.reduceLT, Int.reduceLE, Int.reduceGT, Int.reduceGE, Int.reduceNeg, Int.reduceAdd, Int.reduceSub, Nat.reduceMul, Nat.reduceLT, Int.reduceToNat]
    rintro x H3 ⟨rfl, rfl⟩
    by_cases c1' : u.1 < v.1
    · simp -implicitDefEqProofs only [go_sem, Nat.reduceEqDiff, Nat.reduceAdd, Nat.reduceLeDiff, ↓reduceIte, reduceCtorEq, Int.reduceBEq, Int.reduceBNe, Int.reduceLT, Int.reduceLE, Int.reduceGT, Int.reduceGE, Int.reduceNeg, Int.reduceAdd, Int.reduceSub, Nat.reduceMul, Nat.reduceLT, Int.reduceToNat, t0, t1, t2, t3, t9, c1', hix0, p0, hld0, afill, anat, i1, hs0, hs1, Option.map_none]
      refine more u _ _ _ fun x' G' hO' hE' => ?_
      simp -implicitDefEqProofs only [go_sem, Nat.reduceEqDiff, Nat.reduceAdd, Nat.reduceLeDiff, ↓reduceIte, reduceCtorEq, Int.reduceBEq, Int.reduceBNe, Int.reduceLT, Int.reduceLE, Int.reduceGT, Int.reduceGE, Int.reduceNeg, Int.reduceAdd, Int.reduceSub, Nat.reduceMul, Nat.reduceLT, Int.reduceToNat, t0, t1, t2, t3, t9, anat, i1, hs0, Option.map_none]
      refine ⟨a2.length + (b2.length + 1), by omega, o ++ [u], a2, v :: b2, y0, x1, x', d0, _, rfl, ?_, by simp; omega, hy0, hv0, h1, h1', hO', hE', rfl, rfl, rfl⟩
      rw [hj, joinF, if_pos c1']; simp
    by_cases c2' : v.1 < u.1
    · simp -implicitDefEqProofs only [go_sem, Nat.reduceEqDiff, Nat.reduceAdd, Nat.reduceLeDiff, ↓reduceIte, reduceCtorEq, Int.reduceBEq, Int.reduceBNe, Int.reduceLT, Int.reduceLE, Int.reduceGT, Int.reduceGE, Int.reduceNeg, Int.reduceAdd, Int.reduceSub, Nat.reduceMul, Nat.reduceLT, Int.reduceToNat, t0, t1, t2, t3, t9, c1', c2', hix1, p1, hld1, afill, anat, i1, hs0, hs1, Option.map_none]
      refine more v _ _ _ fun x' G' hO' hE' => ?_
      simp -implicitDefEqProofs only [go_sem, Nat.reduceEqDiff, Nat.reduceAdd, Nat.reduceLeDiff, ↓reduceIte, reduceCtorEq, Int.reduceBEq, Int.reduceBNe, Int.reduceLT, Int.reduceLE, Int.reduceGT, Int.reduceGE, Int.reduceNeg, Int.reduceAdd, Int.reduceSub, Nat.reduceMul, Nat.reduceLT, Int.reduceToNat, t0, t1, t2, t3, t9, anat, i1, hs1, Option.map_none]
      refine ⟨(a2.length + 1) + b2.length, by omega, o ++ [v], u :: a2, b2, x0, y1, x', c0, d1, rfl, ?_, by simp; omega, h0, h0', hy1, hv1, hO', hE', rfl, rfl, rfl⟩
      rw [hj, joinF, if_neg c1', if_pos c2']; simp
    · simp -implicitDefEqProofs only [go_sem, Nat.reduceEqDiff, Nat.reduceAdd, Nat.reduceLeDiff, ↓reduceIte, reduceCtorEq, Int.reduceBEq, Int.reduceBNe, Int.reduceLT, Int.reduceLE, Int.reduceGT, Int.reduceGE, Int.reduceNeg, Int.reduceAdd, Int.reduceSub, Nat.reduceMul, Nat.reduceLT, Int.reduceToNat, t0, t1, t2, t3, t9, c1', c2', hix0, p0, hld0, hix1, p1, hld1, anat, i1, hs0, hs1, Option.map_none]
      refine i_callA (fs := []) (cs := []) (fid := 204) ?_ ?_ (greater_ok u v _) ?_
      · rfl
      · simp -implicitDefEqProofs only [go_sem, Nat.reduceEqDiff, Nat.reduceAdd, Nat.reduceLeDiff, ↓reduceIte, reduceCtorEq, Int.reduceBEq, Int.reduceBNe, Int.reduceLT, Int.reduceLE, Int.reduceGT, Int.reduceGE, Int.reduceNeg, Int.reduceAdd, Int.reduceSub, Nat.reduceMul, Nat.reduceLT, Int.reduceToNat]
      rintro x H3 ⟨rfl, rfl⟩
      simp -implicitDefEqProofs only [go_sem, Nat.reduceEqDiff, Nat.reduceAdd, Nat.reduceLeDiff, ↓reduceIte, reduceCtorEq, Int.reduceBEq, Int.reduceBNe, Int.reduceLT, Int.reduceLE, Int.reduceGT, Int.reduceGE, Int.reduceNeg, Int.reduceAdd, Int.reduceSub, Nat.reduceMul, Nat.reduceLT, Int.reduceToNat, t0, t1, t2, t3, t9, afill, anat, i1, hs0, hs1, Option.map_none]
      refine more (greaterF u v) _ _ _ fun x' G' hO' hE' => ?_
      simp -implicitDefEqProofs only [go_sem, Nat.reduceEqDiff, Nat.reduceAdd, Nat.reduceLeDiff, ↓reduceIte, reduceCtorEq, Int.reduceBEq, Int.reduceBNe, Int.reduceLT, Int.reduceLE, Int.reduceGT, Int.reduceGE, Int.reduceNeg, Int.reduceAdd, Int.reduceSub, Nat.reduceMul, Nat.reduceLT, Int.reduceToNat, t0, t1, t2, t3, t9, anat, i1, hs0, hs1, Option.map_none]
      refine ⟨a2.length + b2.length, by omega, o ++ [greaterF u v], a2, b2, y0, y1, x', d0, d1, rfl, ?_, by simp; omega, hy0, hv0, hy1, hv1, hO', hE', rfl, rfl, rfl⟩
      rw [hj, joinF, if_neg c1', if_neg c2']; simp
  refine main.frz fun _ _ x H' ⟨h1, h2⟩ _ => ⟨h1, ?_⟩
  obtain ⟨y, h3, h4⟩ := h2.frzOld (Nat.le_refl _) (varsC_old _ _)
  exact ⟨y, h3, SlV.of h4⟩
end Go.Proofs.Ytooaiddfokbffaa.E

/- The canonical level, as the code makes it. Conditions: none. -/
set_option linter.unusedVariables false
set_option linter.unusedSimpArgs false
namespace Go.Proofs.Ytooaiddfokbffaa.E
open Go Go.Proofs
attribute [local go_sem] s_seq s_ops s_draw s_block s_skip s_ret s_exit i_nil i_cons i_run i_runG s_condQ c_true c_false aop ev_t ev_c updO_at updO_no upd_at t_normal t_ret t_exit b_normal b_ret b_exit a_some ac_v ac_agg ac_ptr ac_slc ac_ro ac_rop ac_fn new_next set_next argTm_zero argTm_succ argTm_nil ab_bool ab_uv beq_self_eq_true Option.some_beq_some Bool.not_not beq_iff_eq decide_true decide_false Bool.not_true Bool.not_false afld aload astore apack alen_str alen_ro alen_slc alen_nil new_get set_get ite_true ite_false Option.map_some Option.bind_some ibin isShift Nat.add_zero Nat.zero_add List.length_cons List.length_nil List.drop_zero List.drop_succ_cons List.take_succ_cons List.take_zero if_true if_false setL List.set_cons_zero List.set_cons_succ List.all_cons List.all_nil one_int one_bool one_str one_nil one_ptr one_slc one_ro one_rop one_fn Bool.and_self Bool.and_true true_and and_true and_self Bool.false_eq_true post_ret post_normal resAll resOne packR Option.some.injEq exists_eq_left' List.map_cons List.map_nil List.nil_append List.append_nil List.cons_append d_nil d_cons k_nil k_cons g_op g_same g_new avBlock forall_eq' List.getElem?_cons_succ List.getElem?_cons_zero List.getElem?_nil okind gOk bne false_imp_iff forall_const imp_self implies_true true_imp_iff i_callG

def normV (vars : List (Int × Int)) : List (Int × Int) := vars.foldl (fun acc v => joinF acc [v]) []
def normN (n : Int) (vars : List (Int × Int)) : Int := vars.foldl (fun n v => if v.2 ≥ n then 0 else n) n
def normF (l : Lv) : Lv := ⟨normN l.n (normV l.vars), normV l.vars⟩

theorem foldl_len : ∀ (vars acc : List (Int × Int)), (vars.foldl (fun acc v => joinF acc [v]) acc).length ≤ acc.length + vars.length
  | [], acc => by simp
  | v :: r, acc => by
    have := foldl_len r (joinF acc [v])
    have h2 := joinF_len acc [v]
    simp at h2 ⊢
    omega
theorem normV_len (vars : List (Int × Int)) : (normV vars).length ≤ vars.length := by
  have := foldl_len vars []
  simpa [normV] using this

set_option maxRecDepth 100000 in
theorem norm_ok (l : Lv) (vx : AV) (vs : List AV) (h1 : SlR l.vars.length vx vs) (h2 : VarsR l.vars vs) (hn : l.vars.length ≤ 10000) (H : AHeap) :
    SCall Try.prog 199 [.agg [aint l.n, vx]] H fun x H' => (∃ y, x = .agg [aint (normF l).n, y] ∧ SlV (normF l).vars y) ∧ H' = H := by
  have main : SCall Try.prog 199 [.agg [aint l.n, vx]] H fun x H' => (∃ y, x = .agg [aint (normF l).n, y] ∧ SlV (normF l).vars y) ∧ Ext H H' := by
    refine SCall.intro mixed cf199 ?_
    have e1 : ¬ H.next + 1 = H.next := by omega
    have e2 : ¬ H.next = H.next + 1 := by omega
    simp -implicitDefEqProofs only [c199, go_sem, Nat.reduceEqDiff, Nat.reduceAdd, Nat.reduceLeDiff, ↓reduceIte, reduceCtorEq, Int.reduceBEq, Int.reduceBNe, Int.reduceLT, Int.reduceLE, Int.reduceGT, Int.reduceGE, Int.reduceNeg, Int.reduceAdd, Int.reduceSub, Nat.reduceMul, Nat.reduceLT, Int.reduceToNat, h1.one, h1.cells, fun H => h1.alen H, e1, e2]
    refine swp_range l.vars.length (fun i st => st.tm 10 = vx ∧ st.tm 11 = aint l.vars.length ∧ st.tm 12 = aint i ∧ st.tm 1 = .ptr H.next 0 ∧ st.tm 2 = .ptr (H.next + 1) 0 ∧ Ext H st.heap ∧ H.next + 2 ≤ st.heap.next ∧
      st.heap.get H.next = some (.cells [aint l.n, vx]) ∧ st.heap.get (H.next + 1) = some (.cells [aint 0, nils]) ∧
      ∃ acc, acc.length ≤ i ∧ normV l.vars = (l.vars.drop i).foldl (fun acc v => joinF acc [v]) acc ∧ SlV acc (st.tm 3)) ?_ ?_ ?_
    · refine ⟨rfl, rfl, rfl, rfl, rfl, ((Ext.refl H).new _).new _, ?_, ?_, ?_, [], ?_, rfl, ⟨⟨[], .inl ⟨rfl, rfl⟩, trivial⟩, .v _⟩⟩
      all_goals simp -implicitDefEqProofs only [go_sem, Nat.reduceEqDiff, Nat.reduceAdd, Nat.reduceLeDiff, ↓reduceIte, reduceCtorEq, Int.reduceBEq, Int.reduceBNe, Int.reduceLT, Int.reduceLE, Int.reduceGT, Int.reduceGE, Int.reduceNeg, Int.reduceAdd, Int.reduceSub, Nat.reduceMul, Nat.reduceLT, Int.reduceToNat, e1, e2]
      all_goals omega
    · rintro i ⟨tm, H2⟩ hi ⟨t10, t11, t12, t1, t2, hE, hn2, hg1, hg2, acc, hacc, hnv, hS⟩
      simp only at t10 t11 t12 t1 t2 hE hn2 hg1 hg2 hS
      generalize t3 : tm 3 = x3 at hS
      have hltI : (i : Int) < (l.vars.length : Int) := by omega
      have hix := h1.aix 2 hi
      obtain ⟨hle, hld⟩ := h2.at hi
      have w3 : IntKind.i64.wrap ((i : Int) + 1) = (i : Int) + 1 := i64_ok _ (by omega)
      have hdrop : l.vars.drop i = l.vars[i] :: l.vars.drop (i + 1) := List.drop_eq_getElem_cons hi
      rw [hdrop, List.foldl_cons] at hnv
      have e3 : ¬ H2.next + 1 = H2.next := by omega
      have e4 : ¬ H2.next = H2.next + 1 := by omega
      obtain ⟨⟨c3, q1, q2⟩, q3⟩ := hS
      simp -implicitDefEqProofs only [go_sem, Nat.reduceEqDiff, Nat.reduceAdd, Nat.reduceLeDiff, ↓reduceIte, reduceCtorEq, Int.reduceBEq, Int.reduceBNe, Int.reduceLT, Int.reduceLE, Int.reduceGT, Int.reduceGE, Int.reduceNeg, Int.reduceAdd, Int.reduceSub, Nat.reduceMul, Nat.reduceLT, Int.reduceToNat, t10, t11, t12, t1, t2, t3, hltI, hix, hle, hld, afill, e3, e4]
      refine i_callA (fs := []) (cs := []) ?_ ?_ (SCall.gives (b := H2.next + 1) (l := [aint l.vars[i].1, aint l.vars[i].2]) ?_ (.cons (.keep _) (.cons (.slc 0 2 1 1 true [aint l.vars[i].1, aint l.vars[i].2] (by simp) rfl) (.cons (.keep _) (.cons (.keep _) .nil)))) (joined_ok acc [l.vars[i]] x3 _ c3 _ q1 q2 (.inr ⟨1, true, rfl, Nat.le_refl _⟩) ⟨rfl, trivial⟩ (by simp; omega) _)) ?_
      · rfl
      · simp -implicitDefEqProofs only [go_sem, Nat.reduceEqDiff, Nat.reduceAdd, Nat.reduceLeDiff, ↓reduceIte, reduceCtorEq, Int.reduceBEq, Int.reduceBNe, Int.reduceLT, Int.reduceLE, Int.reduceGT, Int.reduceGE, Int.reduceNeg, Int.reduceAdd, Int.reduceSub, Nat.reduceMul, Nat.reduceLT, Int.reduceToNat, t3]
      · simp -implicitDefEqProofs only [go_sem, Nat.reduceEqDiff, Nat.reduceAdd, Nat.reduceLeDiff, ↓reduceIte, reduceCtorEq, Int.reduceBEq, Int.reduceBNe, Int.reduceLT, Int.reduceLE, Int.reduceGT, Int.reduceGE, Int.reduceNeg, Int.reduceAdd, Int.reduceSub, Nat.reduceMul, Nat.reduceLT, Int.reduceToNat, e3, e4]
      rintro x H3 ⟨hx, rfl⟩
      simp -implicitDefEqProofs only [go_sem, Nat.reduceEqDiff, Nat.reduceAdd, Nat.reduceLeDiff, ↓reduceIte, reduceCtorEq, Int.reduceBEq, Int.reduceBNe, Int.reduceLT, Int.reduceLE, Int.reduceGT, Int.reduceGE, Int.reduceNeg, Int.reduceAdd, Int.reduceSub, Nat.reduceMul, Nat.reduceLT, Int.reduceToNat, t12, w3]
      refine ⟨t10, t11, by simp, t1, t2, (((hE.new _).set (by omega) _).new _).kill (by omega), ?_, ?_, ?_, joinF acc [l.vars[i]], ?_, hnv, hx⟩
      · show H.next + 2 ≤ H2.next + 1 + 1
        omega
      · rw [kill_get, if_neg (by omega)]
        simp -implicitDefEqProofs only [go_sem, Nat.reduceEqDiff, Nat.reduceAdd, Nat.reduceLeDiff, ↓reduceIte, reduceCtorEq, Int.reduceBEq, Int.reduceBNe, Int.reduceLT, Int.reduceLE, Int.reduceGT, Int.reduceGE, Int.reduceNeg, Int.reduceAdd, Int.reduceSub, Nat.reduceMul, Nat.reduceLT, Int.reduceToNat, show ¬ H.next = H2.next by omega, show ¬ H.next = H2.next + 1 by omega]
        exact hg1
      · rw [kill_get, if_neg (by omega)]
        simp -implicitDefEqProofs only [go_sem, Nat.reduceEqDiff, Nat.reduceAdd, Nat.reduceLeDiff, ↓reduceIte, reduceCtorEq, Int.reduceBEq, Int.reduceBNe, Int.reduceLT, Int.reduceLE, Int.reduceGT, Int.reduceGE, Int.reduceNeg, Int.reduceAdd, Int.reduceSub, Nat.reduceMul, Nat.reduceLT, Int.reduceToNat, show ¬ H.next + 1 = H2.next by omega, show ¬ H.next + 1 = H2.next + 1 by omega]
        exact hg2
      · have := joinF_len acc [l.vars[i]]
        simp at this
        omega
    · rintro ⟨tm, H2⟩ ⟨t10, t11, t12, t1, t2, hE, hn2, hg1, hg2, acc, hacc, hnv, hS⟩
      simp only at t10 t11 t12 t1 t2 hE hn2 hg1 hg2 hS
      generalize t3 : tm 3 = x3 at hS
      rw [List.drop_length, List.foldl_nil] at hnv
      subst hnv
      have hS' := hS
      obtain ⟨⟨c3, q1, q2⟩, q3⟩ := hS
      have e3 : ¬ H2.next = H.next := by omega
      have e5 : ¬ H.next = H2.next := by omega
      have e6 : ¬ H.next + 1 = H2.next := by omega
      have e7 : ¬ H2.next = H.next + 1 := by omega
      simp -implicitDefEqProofs only [go_sem, Nat.reduceEqDiff, Nat.reduceAdd, Nat.reduceLeDiff, ↓reduceIte, reduceCtorEq, Int.reduceBEq, Int.reduceBNe, Int.reduceLT, Int.reduceLE, Int.reduceGT, Int.reduceGE, Int.reduceNeg, Int.reduceAdd, Int.reduceSub, Nat.reduceMul, Nat.reduceLT, Int.reduceToNat, t10, t11, t12, t1, t2, t3, Int.lt_irrefl, hg1, hg2, afill, q1.one, q1.cells, fun H => q1.alen H, e3, e5]
      refine swp_range (normV l.vars).length (fun i st => st.tm 25 = x3 ∧ st.tm 26 = aint (normV l.vars).length ∧ st.tm 27 = aint i ∧ st.tm 2 = .ptr (H.next + 1) 0 ∧ st.tm 6 = .ptr H2.next 0 ∧ Ext H st.heap ∧ H2.next + 1 ≤ st.heap.next ∧
        st.heap.get (H.next + 1) = some (.cells [aint 0, nils]) ∧
        ∃ n, st.heap.get H2.next = some (.cells [aint n, x3]) ∧ normN l.n (normV l.vars) = ((normV l.vars).drop i).foldl (fun n v => if v.2 ≥ n then 0 else n) n) ?_ ?_ ?_
      · refine ⟨?_, ?_, ?_, ?_, ?_, (hE.new _).set (by omega) _, ?_, ?_, l.n, ?_, rfl⟩
        all_goals simp -implicitDefEqProofs only [go_sem, Nat.reduceEqDiff, Nat.reduceAdd, Nat.reduceLeDiff, ↓reduceIte, reduceCtorEq, Int.reduceBEq, Int.reduceBNe, Int.reduceLT, Int.reduceLE, Int.reduceGT, Int.reduceGE, Int.reduceNeg, Int.reduceAdd, Int.reduceSub, Nat.reduceMul, Nat.reduceLT, Int.reduceToNat, t2, t3, e6, hg2]
        all_goals first | rfl | omega
      · rintro i ⟨tm, H5⟩ hi ⟨t25, t26, t27, t2, t6, hE5, hn5, hg5, n, hg6, hr⟩
        simp only at t25 t26 t27 t2 t6 hE5 hn5 hg5 hg6
        have hltI : (i : Int) < ((normV l.vars).length : Int) := by omega
        have hix := q1.aix 2 hi
        obtain ⟨hle, hld⟩ := q2.at hi
        have := normV_len l.vars
        have w3 : IntKind.i64.wrap ((i : Int) + 1) = (i : Int) + 1 := i64_ok _ (by omega)
        have hdrop : (normV l.vars).drop i = (normV l.vars)[i] :: (normV l.vars).drop (i + 1) := List.drop_eq_getElem_cons hi
        rw [hdrop, List.foldl_cons] at hr
        have k1 : ¬ H2.next = H5.next := by omega
        have k2 : ¬ H.next + 1 = H5.next := by omega
        have k3 : ¬ H5.next = H2.next := by omega
        by_cases hc : (normV l.vars)[i].2 ≥ n
        · rw [if_pos hc] at hr
          simp -implicitDefEqProofs only [go_sem, Nat.reduceEqDiff, Nat.reduceAdd, Nat.reduceLeDiff, ↓reduceIte, reduceCtorEq, Int.reduceBEq, Int.reduceBNe, Int.reduceLT, Int.reduceLE, Int.reduceGT, Int.reduceGE, Int.reduceNeg, Int.reduceAdd, Int.reduceSub, Nat.reduceMul, Nat.reduceLT, Int.reduceToNat, t25, t26, t27, t2, t6, hltI, hix, hle, hld, hg6, k1, k2, k3, hc, w3, q1.one, q1.cells]
          refine ⟨by simp, ((hE5.new _).set hE5.1 _).set (by omega) _, by omega, ?_, 0, rfl, hr⟩
          rw [if_neg (by omega)]
          exact hg5
        · rw [if_neg hc] at hr
          simp -implicitDefEqProofs only [go_sem, Nat.reduceEqDiff, Nat.reduceAdd, Nat.reduceLeDiff, ↓reduceIte, reduceCtorEq, Int.reduceBEq, Int.reduceBNe, Int.reduceLT, Int.reduceLE, Int.reduceGT, Int.reduceGE, Int.reduceNeg, Int.reduceAdd, Int.reduceSub, Nat.reduceMul, Nat.reduceLT, Int.reduceToNat, t25, t26, t27, t2, t6, hltI, hix, hle, hld, hg6, k1, k2, k3, hc, w3, q1.one, q1.cells, hg5]
          exact ⟨by simp, (hE5.new _).set hE5.1 _, by omega, n, rfl, hr⟩
      · rintro ⟨tm, H5⟩ ⟨t25, t26, t27, t2, t6, hE5, hn5, hg5, n, hg6, hr⟩
        simp only at t25 t26 t27 t2 t6 hE5 hn5 hg5 hg6
        rw [List.drop_length, List.foldl_nil] at hr
        simp -implicitDefEqProofs only [go_sem, Nat.reduceEqDiff, Nat.reduceAdd, Nat.reduceLeDiff, ↓reduceIte, reduceCtorEq, Int.reduceBEq, Int.reduceBNe, Int.reduceLT, Int.reduceLE, Int.reduceGT, Int.reduceGE, Int.reduceNeg, Int.reduceAdd, Int.reduceSub, Nat.reduceMul, Nat.reduceLT, Int.reduceToNat, t25, t26, t27, t2, t6, Int.lt_irrefl, hg6, hg5, q1.one, q1.cells]
        exact ⟨⟨x3, by simp only [normF, hr], hS'⟩, hE5.set (by omega) _⟩
  refine main.frz fun _ _ x H' ⟨⟨y, hx, hy⟩, hE⟩ _ => ⟨hE, x, .keep _ ?_, y, hx, hy⟩
  subst hx
  exact .agg _ fun z hz => by
    simp at hz
    rcases hz with rfl | rfl
    · exact .v _
    · exact hy.2.mono (Nat.zero_le _)

/-- An answer with an error, of levels. -/
def LvE (l : Lv) (e : Int) (x : AV) : Prop := ∃ y, x = .tup [.agg [aint l.n, y], aint e] ∧ SlV l.vars y
def lv0 : Lv := ⟨0, []⟩
theorem slv_nil : SlV [] nils := ⟨⟨[], .inl ⟨rfl, rfl⟩, trivial⟩, .v _⟩
theorem LvE.old {l : Lv} {e : Int} {x : AV} (h : LvE l e x) (n : Nat) : Old n x := by
  obtain ⟨y, rfl, hy⟩ := h
  refine .tup _ fun z hz => ?_
  simp at hz
  rcases hz with rfl | rfl
  · exact .agg _ fun z hz => by
      simp at hz
      rcases hz with rfl | rfl
      · exact .v _
      · exact hy.2.mono (Nat.zero_le _)
  · exact .v _

def NormF (l : Lv) : Lv × Int := if rightF l = true then (normF l, 0) else (lv0, 13)

set_option maxRecDepth 100000 in
theorem Norm_ok (l : Lv) (vx : AV) (vs : List AV) (h1 : SlR l.vars.length vx vs) (h2 : VarsR l.vars vs) (hn : l.vars.length ≤ 4611686018427387904) (H : AHeap) :
    SCall Try.prog 178 [.agg [aint l.n, vx]] H fun x H' => LvE (NormF l).1 (NormF l).2 x ∧ H' = H := by
  have main : SCall Try.prog 178 [.agg [aint l.n, vx]] H fun x H' => LvE (NormF l).1 (NormF l).2 x ∧ Ext H H' := by
    refine SCall.intro mixed cf178 ?_
    have e1 : ¬ H.next + 1 = H.next := by omega
    have e2 : ¬ H.next = H.next + 1 := by omega
    simp -implicitDefEqProofs only [c178, go_sem, Nat.reduceEqDiff, Nat.reduceAdd, Nat.reduceLeDiff, ↓reduceIte, reduceCtorEq, Int.reduceBEq, Int.reduceBNe, Int.reduceLT, Int.reduceLE, Int.reduceGT, Int.reduceGE, Int.reduceNeg, Int.reduceAdd, Int.reduceSub, Nat.reduceMul, Nat.reduceLT, Int.reduceToNat, h1.one, h1.cells, e1, e2]
    refine i_callA (fs := []) (cs := []) ?_ ?_ (right_ok l vx vs h1 h2 hn _) ?_
    · rfl
    · simp -implicitDefEqProofs only [go_sem, Nat.reduceEqDiff, Nat.reduceAdd, Nat.reduceLeDiff, ↓reduceIte, reduceCtorEq, Int.reduceBEq, Int.reduceBNe, Int.reduceLT, Int.reduceLE, Int.reduceGT, Int.reduceGE, Int.reduceNeg, Int.reduceAdd, Int.reduceSub, Nat.reduceMul, Nat.reduceLT, Int.reduceToNat]
    rintro x H3 ⟨rfl, rfl⟩
    cases hr : rightF l with
    | false =>
      simp -implicitDefEqProofs only [go_sem, Nat.reduceEqDiff, Nat.reduceAdd, Nat.reduceLeDiff, ↓reduceIte, reduceCtorEq, Int.reduceBEq, Int.reduceBNe, Int.reduceLT, Int.reduceLE, Int.reduceGT, Int.reduceGE, Int.reduceNeg, Int.reduceAdd, Int.reduceSub, Nat.reduceMul, Nat.reduceLT, Int.reduceToNat, afill, e1, e2]
      exact ⟨⟨nils, by simp [NormF, hr, lv0], by simp [NormF, hr, lv0]; exact slv_nil⟩, ((((Ext.refl H).new _).new _).set (by omega) _)⟩
    | true =>
      simp -implicitDefEqProofs only [go_sem, Nat.reduceEqDiff, Nat.reduceAdd, Nat.reduceLeDiff, ↓reduceIte, reduceCtorEq, Int.reduceBEq, Int.reduceBNe, Int.reduceLT, Int.reduceLE, Int.reduceGT, Int.reduceGE, Int.reduceNeg, Int.reduceAdd, Int.reduceSub, Nat.reduceMul, Nat.reduceLT, Int.reduceToNat, e1, e2]
      have hl : l.vars.length ≤ 64 := by
        simp only [rightF, Bool.and_eq_true, decide_eq_true_eq] at hr
        exact hr.1.2
      refine i_callA (fs := []) (cs := []) ?_ ?_ (norm_ok l vx vs h1 h2 (by omega) _) ?_
      · rfl
      · simp -implicitDefEqProofs only [go_sem, Nat.reduceEqDiff, Nat.reduceAdd, Nat.reduceLeDiff, ↓reduceIte, reduceCtorEq, Int.reduceBEq, Int.reduceBNe, Int.reduceLT, Int.reduceLE, Int.reduceGT, Int.reduceGE, Int.reduceNeg, Int.reduceAdd, Int.reduceSub, Nat.reduceMul, Nat.reduceLT, Int.reduceToNat]
      rintro x H3 ⟨⟨y, rfl, hy⟩, rfl⟩
      obtain ⟨⟨c3, q1, q2⟩, q3⟩ := id hy
      simp -implicitDefEqProofs only [go_sem, Nat.reduceEqDiff, Nat.reduceAdd, Nat.reduceLeDiff, ↓reduceIte, reduceCtorEq, Int.reduceBEq, Int.reduceBNe, Int.reduceLT, Int.reduceLE, Int.reduceGT, Int.reduceGE, Int.reduceNeg, Int.reduceAdd, Int.reduceSub, Nat.reduceMul, Nat.reduceLT, Int.reduceToNat, e1, e2, q1.one, q1.cells]
      exact ⟨⟨y, by simp [NormF, hr], by simp [NormF, hr]; exact hy⟩, ((((Ext.refl H).new _).new _).set (by omega) _)⟩
  exact main.frz fun _ _ x H' ⟨hx, hE⟩ _ => ⟨hE, x, .keep _ (hx.old _), hx⟩

def canF (l : Lv) : Bool := rightF l && ((normF l).n == l.n) && decide ((normF l).vars = l.vars)

set_option maxRecDepth 100000 in
theorem can_ok (l : Lv) (hn : l.vars.length ≤ 4611686018427387904) : CanSpec canF l := by
  intro vx vs H h1 h2
  refine SCall.val (SCall.intro mixed cf173 ?_)
  have e1 : ¬ H.next + 1 = H.next := by omega
  have e2 : ¬ H.next = H.next + 1 := by omega
  simp -implicitDefEqProofs only [c173, go_sem, Nat.reduceEqDiff, Nat.reduceAdd, Nat.reduceLeDiff, ↓reduceIte, reduceCtorEq, Int.reduceBEq, Int.reduceBNe, Int.reduceLT, Int.reduceLE, Int.reduceGT, Int.reduceGE, Int.reduceNeg, Int.reduceAdd, Int.reduceSub, Nat.reduceMul, Nat.reduceLT, Int.reduceToNat, h1.one, h1.cells, e1, e2]
  refine i_callA (fs := []) (cs := []) ?_ ?_ (Norm_ok l vx vs h1 h2 hn _) ?_
  · rfl
  · simp -implicitDefEqProofs only [go_sem, Nat.reduceEqDiff, Nat.reduceAdd, Nat.reduceLeDiff, ↓reduceIte, reduceCtorEq, Int.reduceBEq, Int.reduceBNe, Int.reduceLT, Int.reduceLE, Int.reduceGT, Int.reduceGE, Int.reduceNeg, Int.reduceAdd, Int.reduceSub, Nat.reduceMul, Nat.reduceLT, Int.reduceToNat]
  rintro x H3 ⟨⟨y, rfl, hy⟩, rfl⟩
  obtain ⟨⟨c3, q1, q2⟩, q3⟩ := id hy
  have hE : ∀ o1 o2 o3, Ext H (((H.new o1).new o2).set (H.next + 1) o3) := fun o1 o2 o3 => (((Ext.refl H).new _).new _).set (by omega) _
  cases hr : rightF l with
  | false =>
    have hN : (NormF l).2 = 13 := by simp [NormF, hr]
    simp -implicitDefEqProofs only [go_sem, Nat.reduceEqDiff, Nat.reduceAdd, Nat.reduceLeDiff, ↓reduceIte, reduceCtorEq, Int.reduceBEq, Int.reduceBNe, Int.reduceLT, Int.reduceLE, Int.reduceGT, Int.reduceGE, Int.reduceNeg, Int.reduceAdd, Int.reduceSub, Nat.reduceMul, Nat.reduceLT, Int.reduceToNat, e1, e2, q1.one, q1.cells, hN]
    exact ⟨by simp [canF, hr], hE _ _ _⟩
  | true =>
  have hN : NormF l = (normF l, 0) := by simp [NormF, hr]
  rw [hN] at q1 q2 ⊢
  cases hnn : ((normF l).n == l.n) with
  | false =>
    simp -implicitDefEqProofs only [go_sem, Nat.reduceEqDiff, Nat.reduceAdd, Nat.reduceLeDiff, ↓reduceIte, reduceCtorEq, Int.reduceBEq, Int.reduceBNe, Int.reduceLT, Int.reduceLE, Int.reduceGT, Int.reduceGE, Int.reduceNeg, Int.reduceAdd, Int.reduceSub, Nat.reduceMul, Nat.reduceLT, Int.reduceToNat, e1, e2, q1.one, q1.cells, hnn]
    exact ⟨by simp [canF, hnn], hE _ _ _⟩
  | true =>
    simp -implicitDefEqProofs only [go_sem, Nat.reduceEqDiff, Nat.reduceAdd, Nat.reduceLeDiff, ↓reduceIte, reduceCtorEq, Int.reduceBEq, Int.reduceBNe, Int.reduceLT, Int.reduceLE, Int.reduceGT, Int.reduceGE, Int.reduceNeg, Int.reduceAdd, Int.reduceSub, Nat.reduceMul, Nat.reduceLT, Int.reduceToNat, e1, e2, q1.one, q1.cells, hnn]
    have hl : l.vars.length ≤ 64 := by
      simp only [rightF, Bool.and_eq_true, decide_eq_true_eq] at hr
      exact hr.1.2
    have := normV_len l.vars
    refine i_callA (fs := []) (cs := []) ?_ ?_ (equal_ok _ _ _ _ _ _ q1 q2 h1 h2 (by simp only [normF]; omega) _) ?_
    · rfl
    · simp -implicitDefEqProofs only [go_sem, Nat.reduceEqDiff, Nat.reduceAdd, Nat.reduceLeDiff, ↓reduceIte, reduceCtorEq, Int.reduceBEq, Int.reduceBNe, Int.reduceLT, Int.reduceLE, Int.reduceGT, Int.reduceGE, Int.reduceNeg, Int.reduceAdd, Int.reduceSub, Nat.reduceMul, Nat.reduceLT, Int.reduceToNat]
    rintro x H3 ⟨rfl, rfl⟩
    simp -implicitDefEqProofs only [go_sem, Nat.reduceEqDiff, Nat.reduceAdd, Nat.reduceLeDiff, ↓reduceIte, reduceCtorEq, Int.reduceBEq, Int.reduceBNe, Int.reduceLT, Int.reduceLE, Int.reduceGT, Int.reduceGE, Int.reduceNeg, Int.reduceAdd, Int.reduceSub, Nat.reduceMul, Nat.reduceLT, Int.reduceToNat]
    exact ⟨by simp [canF, hr, hnn], hE _ _ _⟩
end Go.Proofs.Ytooaiddfokbffaa.E

/- The canonical level, as the reference makes it. Conditions: none. -/
set_option linter.unusedVariables false
set_option linter.unusedSimpArgs false
namespace Go.Proofs.Ytooaiddfokbffaa.E
open Go Go.Proofs
attribute [local go_sem] s_seq s_ops s_draw s_block s_skip s_ret s_exit i_nil i_cons i_run i_runG s_condQ c_true c_false aop ev_t ev_c updO_at updO_no upd_at t_normal t_ret t_exit b_normal b_ret b_exit a_some ac_v ac_agg ac_ptr ac_slc ac_ro ac_rop ac_fn new_next set_next argTm_zero argTm_succ argTm_nil ab_bool ab_uv beq_self_eq_true Option.some_beq_some Bool.not_not beq_iff_eq decide_true decide_false Bool.not_true Bool.not_false afld aload astore apack alen_str alen_ro alen_slc alen_nil new_get set_get ite_true ite_false Option.map_some Option.bind_some ibin isShift Nat.add_zero Nat.zero_add List.length_cons List.length_nil List.drop_zero List.drop_succ_cons List.take_succ_cons List.take_zero if_true if_false setL List.set_cons_zero List.set_cons_succ List.all_cons List.all_nil one_int one_bool one_str one_nil one_ptr one_slc one_ro one_rop one_fn Bool.and_self Bool.and_true true_and and_true and_self Bool.false_eq_true post_ret post_normal resAll resOne packR Option.some.injEq exists_eq_left' List.map_cons List.map_nil List.nil_append List.append_nil List.cons_append d_nil d_cons k_nil k_cons g_op g_same g_new avBlock forall_eq' List.getElem?_cons_succ List.getElem?_cons_zero List.getElem?_nil okind gOk bne false_imp_iff forall_const imp_self implies_true true_imp_iff i_callG

/-! ### The variable that comes next, and the most that is added to it -/
def nextStep (last : Int) (s v : Int × Int) : Int × Int :=
  if v.1 ≤ last then s else if s.1 < 0 ∨ v.1 < s.1 then v else if v.1 = s.1 ∧ v.2 > s.2 then (s.1, v.2) else s
def nextF (last : Int) (vars : List (Int × Int)) : Int × Int := vars.foldl (nextStep last) (-1, 0)

def NextS (last : Int) (vars : List (Int × Int)) (s : Int × Int) : Prop :=
  (s = (-1, 0) ∧ ∀ v ∈ vars, v.1 ≤ last) ∨ (last < s.1 ∧ s ∈ vars ∧ ∀ v ∈ vars, last < v.1 → s.1 < v.1 ∨ (v.1 = s.1 ∧ v.2 ≤ s.2))

def above (vars : List (Int × Int)) (last : Int) : Nat := (vars.filter fun v => decide (last < v.1)).length

def tidyV (vars : List (Int × Int)) : Nat → Int → List (Int × Int)
  | 0, _ => []
  | k + 1, last => if (nextF last vars).1 < 0 then [] else nextF last vars :: tidyV vars k (nextF last vars).1

def tidyW (vars : List (Int × Int)) (last : Int) : List (Int × Int) := tidyV vars (above vars last) last
def tidyN (n : Int) (l : List (Int × Int)) : Int := if l.any (fun v => decide (v.2 ≥ n)) = true then 0 else n
def tidyF (l : Lv) : Lv := ⟨tidyN l.n (tidyW l.vars (-1)), tidyW l.vars (-1)⟩

end Go.Proofs.Ytooaiddfokbffaa.E

/- The two canonical levels are one. Conditions: none. -/
set_option linter.unusedVariables false
set_option linter.unusedSimpArgs false
namespace Go.Proofs.Ytooaiddfokbffaa.E
open Go Go.Proofs
attribute [local go_sem] s_seq s_ops s_draw s_block s_skip s_ret s_exit i_nil i_cons i_run i_runG s_condQ c_true c_false aop ev_t ev_c updO_at updO_no upd_at t_normal t_ret t_exit b_normal b_ret b_exit a_some ac_v ac_agg ac_ptr ac_slc ac_ro ac_rop ac_fn new_next set_next argTm_zero argTm_succ argTm_nil ab_bool ab_uv beq_self_eq_true Option.some_beq_some Bool.not_not beq_iff_eq decide_true decide_false Bool.not_true Bool.not_false afld aload astore apack alen_str alen_ro alen_slc alen_nil new_get set_get ite_true ite_false Option.map_some Option.bind_some ibin isShift Nat.add_zero Nat.zero_add List.length_cons List.length_nil List.drop_zero List.drop_succ_cons List.take_succ_cons List.take_zero if_true if_false setL List.set_cons_zero List.set_cons_succ List.all_cons List.all_nil one_int one_bool one_str one_nil one_ptr one_slc one_ro one_rop one_fn Bool.and_self Bool.and_true true_and and_true and_self Bool.false_eq_true post_ret post_normal resAll resOne packR Option.some.injEq exists_eq_left' List.map_cons List.map_nil List.nil_append List.append_nil List.cons_append d_nil d_cons k_nil k_cons g_op g_same g_new avBlock forall_eq' List.getElem?_cons_succ List.getElem?_cons_zero List.getElem?_nil okind gOk bne false_imp_iff forall_const imp_self implies_true true_imp_iff i_callG

abbrev SortK (l : List (Int × Int)) : Prop := l.Pairwise fun x y => x.1 < y.1
/-- The most that is added to a variable. -/
def Best (l : List (Int × Int)) (x : Int × Int) : Prop := x ∈ l ∧ ∀ v ∈ l, v.1 = x.1 → v.2 ≤ x.2

/-- Numbers of variables, and what is added, from zero on. -/
def Pos (vars : List (Int × Int)) : Prop := ∀ v ∈ vars, 0 ≤ v.1 ∧ 0 ≤ v.2

end Go.Proofs.Ytooaiddfokbffaa.E

/- Whether a term is too much, and whether forms bind. Conditions: none. -/
set_option linter.unusedVariables false
set_option linter.unusedSimpArgs false
namespace Go.Proofs.Ytooaiddfokbffaa.E
open Go Go.Proofs
attribute [local go_sem] s_seq s_ops s_draw s_block s_skip s_ret s_exit i_nil i_cons i_run i_runG s_condQ c_true c_false aop ev_t ev_c updO_at updO_no upd_at t_normal t_ret t_exit b_normal b_ret b_exit a_some ac_v ac_agg ac_ptr ac_slc ac_ro ac_rop ac_fn new_next set_next argTm_zero argTm_succ argTm_nil ab_bool ab_uv beq_self_eq_true Option.some_beq_some Bool.not_not beq_iff_eq decide_true decide_false Bool.not_true Bool.not_false afld aload astore apack alen_str alen_ro alen_slc alen_nil new_get set_get ite_true ite_false Option.map_some Option.bind_some ibin isShift Nat.add_zero Nat.zero_add List.length_cons List.length_nil List.drop_zero List.drop_succ_cons List.take_succ_cons List.take_zero if_true if_false setL List.set_cons_zero List.set_cons_succ List.all_cons List.all_nil one_int one_bool one_str one_nil one_ptr one_slc one_ro one_rop one_fn Bool.and_self Bool.and_true true_and and_true and_self Bool.false_eq_true post_ret post_normal resAll resOne packR Option.some.injEq exists_eq_left' List.map_cons List.map_nil List.nil_append List.append_nil List.cons_append d_nil d_cons k_nil k_cons g_op g_same g_new avBlock forall_eq' List.getElem?_cons_succ List.getElem?_cons_zero List.getElem?_nil okind gOk bne false_imp_iff forall_const imp_self implies_true true_imp_iff i_callG

def bindsF (f : Int) : Bool := f == 3 || f == 4 || f == 6
def underF (f i deep : Int) : Int := if i = 1 ∧ bindsF f = true then deep + 1 else deep

theorem bne' {a b : Int} (h : ¬ a = b) : (a == b) = false := by simpa using h

set_option maxRecDepth 100000 in
theorem binds_ok (f : Int) (H : AHeap) : SCall Try.prog 198 [aint f] H fun x H' => x = abl (bindsF f) ∧ H' = H := by
  refine SCall.intro mixed cf198 ?_
  by_cases e1 : f = 3
  · subst e1; simp -implicitDefEqProofs only [c198, go_sem, Nat.reduceEqDiff, Nat.reduceAdd, Nat.reduceLeDiff, ↓reduceIte, reduceCtorEq, Int.reduceBEq, Int.reduceBNe, Int.reduceLT, Int.reduceLE, Int.reduceGT, Int.reduceGE, Int.reduceNeg, Int.reduceAdd, Int.reduceSub, Nat.reduceMul, Nat.reduceLT, Int.reduceToNat]; rfl
  by_cases e2 : f = 4
  · subst e2; simp -implicitDefEqProofs only [c198, go_sem, Nat.reduceEqDiff, Nat.reduceAdd, Nat.reduceLeDiff, ↓reduceIte, reduceCtorEq, Int.reduceBEq, Int.reduceBNe, Int.reduceLT, Int.reduceLE, Int.reduceGT, Int.reduceGE, Int.reduceNeg, Int.reduceAdd, Int.reduceSub, Nat.reduceMul, Nat.reduceLT, Int.reduceToNat]; rfl
  by_cases e3 : f = 6
  · subst e3; simp -implicitDefEqProofs only [c198, go_sem, Nat.reduceEqDiff, Nat.reduceAdd, Nat.reduceLeDiff, ↓reduceIte, reduceCtorEq, Int.reduceBEq, Int.reduceBNe, Int.reduceLT, Int.reduceLE, Int.reduceGT, Int.reduceGE, Int.reduceNeg, Int.reduceAdd, Int.reduceSub, Nat.reduceMul, Nat.reduceLT, Int.reduceToNat]; rfl
  simp -implicitDefEqProofs only [c198, go_sem, Nat.reduceEqDiff, Nat.reduceAdd, Nat.reduceLeDiff, ↓reduceIte, reduceCtorEq, Int.reduceBEq, Int.reduceBNe, Int.reduceLT, Int.reduceLE, Int.reduceGT, Int.reduceGE, Int.reduceNeg, Int.reduceAdd, Int.reduceSub, Nat.reduceMul, Nat.reduceLT, Int.reduceToNat, bne' e1, bne' e2, bne' e3]
  simp [bindsF, e1, e2, e3]

set_option maxRecDepth 100000 in
theorem under_ok (f i deep : Int) (hd : 0 ≤ deep ∧ deep ≤ 4611686018427387904) (H : AHeap) : SCall Try.prog 172 [aint f, aint i, aint deep] H fun x H' => x = aint (underF f i deep) ∧ H' = H := by
  refine SCall.intro mixed cf172 ?_
  have w : IntKind.i64.wrap (deep + 1) = deep + 1 := i64_ok _ (by omega)
  by_cases e1 : i = 1
  · subst e1
    simp -implicitDefEqProofs only [c172, go_sem, Nat.reduceEqDiff, Nat.reduceAdd, Nat.reduceLeDiff, ↓reduceIte, reduceCtorEq, Int.reduceBEq, Int.reduceBNe, Int.reduceLT, Int.reduceLE, Int.reduceGT, Int.reduceGE, Int.reduceNeg, Int.reduceAdd, Int.reduceSub, Nat.reduceMul, Nat.reduceLT, Int.reduceToNat]
    refine i_callA (fs := []) (cs := []) ?_ ?_ (binds_ok f _) ?_
    · rfl
    · simp -implicitDefEqProofs only [go_sem, Nat.reduceEqDiff, Nat.reduceAdd, Nat.reduceLeDiff, ↓reduceIte, reduceCtorEq, Int.reduceBEq, Int.reduceBNe, Int.reduceLT, Int.reduceLE, Int.reduceGT, Int.reduceGE, Int.reduceNeg, Int.reduceAdd, Int.reduceSub, Nat.reduceMul, Nat.reduceLT, Int.reduceToNat]
    rintro x H3 ⟨rfl, rfl⟩
    cases hb : bindsF f with
    | true => simp -implicitDefEqProofs only [go_sem, Nat.reduceEqDiff, Nat.reduceAdd, Nat.reduceLeDiff, ↓reduceIte, reduceCtorEq, Int.reduceBEq, Int.reduceBNe, Int.reduceLT, Int.reduceLE, Int.reduceGT, Int.reduceGE, Int.reduceNeg, Int.reduceAdd, Int.reduceSub, Nat.reduceMul, Nat.reduceLT, Int.reduceToNat, w]; simp [underF, hb]
    | false => simp -implicitDefEqProofs only [go_sem, Nat.reduceEqDiff, Nat.reduceAdd, Nat.reduceLeDiff, ↓reduceIte, reduceCtorEq, Int.reduceBEq, Int.reduceBNe, Int.reduceLT, Int.reduceLE, Int.reduceGT, Int.reduceGE, Int.reduceNeg, Int.reduceAdd, Int.reduceSub, Nat.reduceMul, Nat.reduceLT, Int.reduceToNat]; simp [underF, hb]
  · simp -implicitDefEqProofs only [c172, go_sem, Nat.reduceEqDiff, Nat.reduceAdd, Nat.reduceLeDiff, ↓reduceIte, reduceCtorEq, Int.reduceBEq, Int.reduceBNe, Int.reduceLT, Int.reduceLE, Int.reduceGT, Int.reduceGE, Int.reduceNeg, Int.reduceAdd, Int.reduceSub, Nat.reduceMul, Nat.reduceLT, Int.reduceToNat, bne' e1]
    simp [underF, e1]

/-! ### How much a term is -/
def cntL (n : Int) : List Lv → Int
  | [] => n
  | l :: r => if n ≤ 3000 then cntL (n + 1 + l.vars.length) r else n
mutual
def cntT (high : Int) : Tm → Int
  | .mk _ _ _ s lv ks => if high > 700 then 3001 else cntK (high + 1) (cntL (1 + (s.size : Int).tdiv 16) lv) ks
def cntK (high n : Int) : List Tm → Int
  | [] => n
  | k :: r => if n ≤ 3000 then cntK high (n + cntT high k) r else n
end

theorem cntL_bound : ∀ (lv : List Lv) (n : Int), (∀ l ∈ lv, LvB l) → 0 ≤ n → n ≤ cntL n lv ∧ (cntL n lv ≤ n ∨ cntL n lv ≤ 8796093025001)
  | [], n, _, h => by simp [cntL]
  | l :: r, n, hb, h => by
    simp only [cntL]
    split
    · rename_i h1
      have hl := (hb l (List.mem_cons_self ..)).2.1
      obtain ⟨h2, h3⟩ := cntL_bound r (n + 1 + l.vars.length) (fun l hl => hb l (List.mem_cons_of_mem _ hl)) (by omega)
      omega
    · omega

theorem tdiv16 (m : Nat) (hm : m ≤ 140737488351232) : 0 ≤ (m : Int).tdiv 16 ∧ (m : Int).tdiv 16 ≤ 8796093021952 := by
  rw [Int.tdiv_eq_ediv_of_nonneg (by omega)]
  omega

theorem cntT_bound : ∀ t, Tm.All TmB t → ∀ high, 0 ≤ high → high ≤ 701 → 1 ≤ cntT high t ∧ cntT high t ≤ 8796093025001 + (702 - high) * 3001 := by
  refine Tm.rule fun f n hd s lv ks ih ha high hh hh' => ?_
  simp only [Tm.All, TmB, Tm.name, Tm.lv, Tm.kids] at ha
  obtain ⟨⟨_, _, a1, a2, a3, a4⟩, a5⟩ := ha
  simp only [cntT]
  by_cases h1 : high > 700
  · rw [if_pos h1]; omega
  rw [if_neg h1]
  obtain ⟨d1, d2⟩ := tdiv16 s.size a1
  obtain ⟨b1, b2⟩ := cntL_bound lv (1 + (s.size : Int).tdiv 16) a4 (by omega)
  have key : ∀ (ks' : List Tm), (∀ k ∈ ks', k ∈ ks) → ∀ m, 1 ≤ m → m ≤ 8796093025001 + (702 - high) * 3001 → 1 ≤ cntK (high + 1) m ks' ∧ cntK (high + 1) m ks' ≤ 8796093025001 + (702 - high) * 3001 := by
    intro ks'
    induction ks' with
    | nil => intro _ m h2 h3; simp only [cntK]; omega
    | cons k r ih' =>
      intro hm m h2 h3
      simp only [cntK]
      split
      · rename_i h4
        have hk := ih k (hm k (List.mem_cons_self ..)) (a5.mem k (hm k (List.mem_cons_self ..))) (high + 1) (by omega) (by omega)
        exact ih' (fun k hk => hm k (List.mem_cons_of_mem _ hk)) _ (by omega) (by omega)
      · omega
  exact key ks (fun _ h => h) _ (by omega) (by omega)

set_option maxRecDepth 100000 in
theorem cnt_ok : ∀ t, Tm.All TmB t → ∀ (cells : List AV), TmR t cells → ∀ (high : Int), 0 ≤ high → high ≤ 701 → ∀ (H : AHeap),
    SCall Try.prog 74 [.agg cells, aint 3000, aint high] H fun x H' => x = aint (cntT high t) ∧ H' = H := by
  refine Tm.rule fun f n hid s lv ks ih ha cells hT high hh hh' H => ?_
  have hbd := cntT_bound _ ha high hh hh'
  obtain ⟨lx, kx, ls, cs, rfl, hl1, hl2, hk1, hk2⟩ := hT.six
  simp only [Tm.All, TmB, Tm.form, Tm.n, Tm.hid, Tm.name, Tm.lv, Tm.kids] at *
  obtain ⟨⟨_, _, a1, a2, a3, a4⟩, a5⟩ := ha
  obtain ⟨d1, d2⟩ := tdiv16 s.size a1
  have w0 : IntKind.i64.wrap ((s.size : Int).tdiv 16) = (s.size : Int).tdiv 16 := i64_ok _ (by omega)
  have w1 : IntKind.i64.wrap (1 + (s.size : Int).tdiv 16) = 1 + (s.size : Int).tdiv 16 := i64_ok _ (by omega)
  have w2 : IntKind.i64.wrap 3001 = 3001 := i64_ok _ (by omega)
  have z16 : ¬ (16 : Int) = 0 := by omega
  refine SCall.val (SCall.intro mixed cf74 ?_)
  by_cases h1 : high > 700
  · simp -implicitDefEqProofs only [c74, go_sem, Nat.reduceEqDiff, Nat.reduceAdd, Nat.reduceLeDiff, ↓reduceIte, reduceCtorEq, Int.reduceBEq, Int.reduceBNe, Int.reduceLT, Int.reduceLE, Int.reduceGT, Int.reduceGE, Int.reduceNeg, Int.reduceAdd, Int.reduceSub, Nat.reduceMul, Nat.reduceLT, Int.reduceToNat, hk1.one, hl1.one, hk1.cells, hl1.cells, w0, w1, w2, z16, h1]
    exact ⟨by simp [cntT, h1], (Ext.refl H).new _⟩
  simp only [cntT, if_neg h1] at hbd ⊢
  simp -implicitDefEqProofs only [c74, go_sem, Nat.reduceEqDiff, Nat.reduceAdd, Nat.reduceLeDiff, ↓reduceIte, reduceCtorEq, Int.reduceBEq, Int.reduceBNe, Int.reduceLT, Int.reduceLE, Int.reduceGT, Int.reduceGE, Int.reduceNeg, Int.reduceAdd, Int.reduceSub, Nat.reduceMul, Nat.reduceLT, Int.reduceToNat, hk1.one, hl1.one, hk1.cells, hl1.cells, w0, w1, w2, z16, h1]
  generalize hn0 : 1 + (s.size : Int).tdiv 16 = n0 at *
  have hcell : ∀ {G : AHeap}, Ext (H.new (.cells [aint f, aint n, abl hid, .v (.string s), lx, kx])) G → G.get H.next = some (.cells [aint f, aint n, abl hid, .v (.string s), lx, kx]) := fun {G} hG => by
    rw [hG.2 _ (Nat.lt_succ_self _), new_get, if_pos rfl]
  obtain ⟨b1, b2⟩ := cntL_bound lv n0 a4 (by omega)
  refine cutK (M := fun st => st.tm 1 = aint 3000 ∧ st.tm 2 = aint high ∧ st.tm 3 = .ptr H.next 0 ∧ Ext (H.new (.cells [aint f, aint n, abl hid, .v (.string s), lx, kx])) st.heap ∧ st.tm 7 = aint (cntL n0 lv)) ?_ ?_
  · -- the levels
    refine swp_loop (fun k st => ∃ (i : Nat) (m : Int), k = lv.length - i ∧ i ≤ lv.length ∧ st.tm 1 = aint 3000 ∧ st.tm 2 = aint high ∧ st.tm 3 = .ptr H.next 0 ∧ st.tm 8 = aint i ∧ Ext (H.new (.cells [aint f, aint n, abl hid, .v (.string s), lx, kx])) st.heap ∧
      st.tm 7 = aint m ∧ n0 ≤ m ∧ cntL n0 lv = cntL m (lv.drop i)) (k := lv.length) ?_ ?_
    · exact ⟨0, n0, rfl, Nat.zero_le _, rfl, rfl, rfl, rfl, Ext.refl _, rfl, Int.le_refl _, by simp⟩
    rintro k ⟨tm, H2⟩ ⟨i, m, rfl, hi, t1, t2, t3, t8, hE, t7, hm1, hr⟩
    simp only at t1 t2 t3 t7 t8 hE
    have hg := hcell hE
    by_cases hlt : i < lv.length
    · have hltI : (i : Int) < (lv.length : Int) := by omega
      have hdrop : lv.drop i = lv[i] :: lv.drop (i + 1) := List.drop_eq_getElem_cons hlt
      rw [hdrop, cntL] at hr
      by_cases h3 : m ≤ 3000
      · rw [if_pos h3] at hr
        obtain ⟨vx, vs, hle, hld, hv1, hv2⟩ := hl2.at (List.getElem?_eq_getElem hlt)
        have hld1 : (ls.drop (i * 2 + 1)).take 1 = [vx] := by
          have := congrArg (fun q => (q.drop 1).take 1) hld
          simpa [List.drop_take, List.drop_drop, List.take_take] using this
        have hle1 : i * 2 + 1 + 1 ≤ ls.length := by omega
        have hvb := (a4 _ (List.getElem_mem hlt)).2.1
        have hix := hl1.aix 2 hlt
        have e1 : IntKind.i64.wrap (m + 1) = m + 1 := i64_ok _ (by omega)
        have e2 : IntKind.i64.wrap (m + 1 + (lv[i].vars.length : Int)) = m + 1 + lv[i].vars.length := i64_ok _ (by omega)
        have e3 : IntKind.i64.wrap ((i : Int) + 1) = (i : Int) + 1 := i64_ok _ (by omega)
        simp -implicitDefEqProofs only [go_sem, Nat.reduceEqDiff, Nat.reduceAdd, Nat.reduceLeDiff, ↓reduceIte, reduceCtorEq, Int.reduceBEq, Int.reduceBNe, Int.reduceLT, Int.reduceLE, Int.reduceGT, Int.reduceGE, Int.reduceNeg, Int.reduceAdd, Int.reduceSub, Nat.reduceMul, Nat.reduceLT, Int.reduceToNat, t1, t2, t3, t7, t8, hg, fun H => hl1.alen H, hltI, h3, hix, hle1, hld1, fun H => hv1.alen H, e1, e2, e3]
        exact ⟨lv.length - (i + 1), by omega, i + 1, _, rfl, by omega, by simp, hE, rfl, by omega, hr⟩
      · rw [if_neg h3] at hr
        simp -implicitDefEqProofs only [go_sem, Nat.reduceEqDiff, Nat.reduceAdd, Nat.reduceLeDiff, ↓reduceIte, reduceCtorEq, Int.reduceBEq, Int.reduceBNe, Int.reduceLT, Int.reduceLE, Int.reduceGT, Int.reduceGE, Int.reduceNeg, Int.reduceAdd, Int.reduceSub, Nat.reduceMul, Nat.reduceLT, Int.reduceToNat, t1, t2, t3, t7, t8, hg, fun H => hl1.alen H, hltI, h3]
        exact ⟨hE, by rw [hr]⟩
    · have hltI : ¬ (i : Int) < (lv.length : Int) := by omega
      rw [List.drop_of_length_le (by omega), cntL] at hr
      simp -implicitDefEqProofs only [go_sem, Nat.reduceEqDiff, Nat.reduceAdd, Nat.reduceLeDiff, ↓reduceIte, reduceCtorEq, Int.reduceBEq, Int.reduceBNe, Int.reduceLT, Int.reduceLE, Int.reduceGT, Int.reduceGE, Int.reduceNeg, Int.reduceAdd, Int.reduceSub, Nat.reduceMul, Nat.reduceLT, Int.reduceToNat, t1, t2, t3, t7, t8, hg, fun H => hl1.alen H, hltI]
      exact ⟨hE, by rw [hr]⟩
  rintro ⟨tm, H2⟩ ⟨t1, t2, t3, hE, t7⟩
  simp only at t1 t2 t3 t7 hE
  simp -implicitDefEqProofs only [go_sem, Nat.reduceEqDiff, Nat.reduceAdd, Nat.reduceLeDiff, ↓reduceIte, reduceCtorEq, Int.reduceBEq, Int.reduceBNe, Int.reduceLT, Int.reduceLE, Int.reduceGT, Int.reduceGE, Int.reduceNeg, Int.reduceAdd, Int.reduceSub, Nat.reduceMul, Nat.reduceLT, Int.reduceToNat, t1, t2, t3, t7]
  have hm0 : 1 ≤ cntL n0 lv := by omega
  have hm9 : cntL n0 lv ≤ 8796093025001 := by omega
  refine swp_loop (fun k st => ∃ (i : Nat) (m : Int), k = ks.length - i ∧ i ≤ ks.length ∧ st.tm 1 = aint 3000 ∧ st.tm 2 = aint high ∧ st.tm 3 = .ptr H.next 0 ∧ st.tm 9 = aint i ∧ Ext (H.new (.cells [aint f, aint n, abl hid, .v (.string s), lx, kx])) st.heap ∧
    st.tm 7 = aint m ∧ 1 ≤ m ∧ cntK (high + 1) (cntL n0 lv) ks = cntK (high + 1) m (ks.drop i)) (k := ks.length) ?_ ?_
  · refine ⟨0, _, rfl, Nat.zero_le _, ?_, ?_, ?_, rfl, hE, ?_, hm0, by simp⟩
    all_goals simp -implicitDefEqProofs only [go_sem, Nat.reduceEqDiff, Nat.reduceAdd, Nat.reduceLeDiff, ↓reduceIte, reduceCtorEq, Int.reduceBEq, Int.reduceBNe, Int.reduceLT, Int.reduceLE, Int.reduceGT, Int.reduceGE, Int.reduceNeg, Int.reduceAdd, Int.reduceSub, Nat.reduceMul, Nat.reduceLT, Int.reduceToNat, t1, t2, t3, t7]
  rintro k ⟨tm, H2⟩ ⟨i, m, rfl, hi, t1, t2, t3, t9, hE, t7, hm1, hr⟩
  simp only at t1 t2 t3 t7 t9 hE
  have hg := hcell hE
  have hEH : Ext H H2 := ((Ext.refl H).new _).trans hE
  by_cases hlt : i < ks.length
  · have hltI : (i : Int) < (ks.length : Int) := by omega
    have hdrop : ks.drop i = ks[i] :: ks.drop (i + 1) := List.drop_eq_getElem_cons hlt
    rw [hdrop, cntK] at hr
    by_cases h3 : m ≤ 3000
    · rw [if_pos h3] at hr
      obtain ⟨kc, hkc, hle, hld⟩ := hk2.load (List.getElem?_eq_getElem hlt)
      have hix := hk1.aix 6 hlt
      have hkb := cntT_bound _ (a5.mem _ (List.getElem_mem hlt)) (high + 1) (by omega) (by omega)
      have e1 : IntKind.i64.wrap (high + 1) = high + 1 := i64_ok _ (by omega)
      have e2 : IntKind.i64.wrap (m + cntT (high + 1) ks[i]) = m + cntT (high + 1) ks[i] := i64_ok _ (by omega)
      have e3 : IntKind.i64.wrap ((i : Int) + 1) = (i : Int) + 1 := i64_ok _ (by omega)
      simp -implicitDefEqProofs only [go_sem, Nat.reduceEqDiff, Nat.reduceAdd, Nat.reduceLeDiff, ↓reduceIte, reduceCtorEq, Int.reduceBEq, Int.reduceBNe, Int.reduceLT, Int.reduceLE, Int.reduceGT, Int.reduceGE, Int.reduceNeg, Int.reduceAdd, Int.reduceSub, Nat.reduceMul, Nat.reduceLT, Int.reduceToNat, t1, t2, t3, t7, t9, hg, fun H => hk1.alen H, hltI, h3, hix, hle, hld, e1]
      refine i_callA (fs := []) (cs := []) ?_ ?_ (ih ks[i] (List.getElem_mem hlt) (a5.mem _ (List.getElem_mem hlt)) _ hkc (high + 1) (by omega) (by omega) _) ?_
      · rfl
      · simp -implicitDefEqProofs only [go_sem, Nat.reduceEqDiff, Nat.reduceAdd, Nat.reduceLeDiff, ↓reduceIte, reduceCtorEq, Int.reduceBEq, Int.reduceBNe, Int.reduceLT, Int.reduceLE, Int.reduceGT, Int.reduceGE, Int.reduceNeg, Int.reduceAdd, Int.reduceSub, Nat.reduceMul, Nat.reduceLT, Int.reduceToNat, t1, t2, e1]
      rintro x H3 ⟨rfl, rfl⟩
      simp -implicitDefEqProofs only [go_sem, Nat.reduceEqDiff, Nat.reduceAdd, Nat.reduceLeDiff, ↓reduceIte, reduceCtorEq, Int.reduceBEq, Int.reduceBNe, Int.reduceLT, Int.reduceLE, Int.reduceGT, Int.reduceGE, Int.reduceNeg, Int.reduceAdd, Int.reduceSub, Nat.reduceMul, Nat.reduceLT, Int.reduceToNat, t7, t9, e2, e3]
      exact ⟨ks.length - (i + 1), by omega, i + 1, _, rfl, by omega, t1, t2, t3, by simp, hE, rfl, by omega, hr⟩
    · rw [if_neg h3] at hr
      simp -implicitDefEqProofs only [go_sem, Nat.reduceEqDiff, Nat.reduceAdd, Nat.reduceLeDiff, ↓reduceIte, reduceCtorEq, Int.reduceBEq, Int.reduceBNe, Int.reduceLT, Int.reduceLE, Int.reduceGT, Int.reduceGE, Int.reduceNeg, Int.reduceAdd, Int.reduceSub, Nat.reduceMul, Nat.reduceLT, Int.reduceToNat, t1, t2, t3, t7, t9, hg, fun H => hk1.alen H, hltI, h3]
      exact ⟨by rw [hr], hEH⟩
  · have hltI : ¬ (i : Int) < (ks.length : Int) := by omega
    rw [List.drop_of_length_le (by omega), cntK] at hr
    simp -implicitDefEqProofs only [go_sem, Nat.reduceEqDiff, Nat.reduceAdd, Nat.reduceLeDiff, ↓reduceIte, reduceCtorEq, Int.reduceBEq, Int.reduceBNe, Int.reduceLT, Int.reduceLE, Int.reduceGT, Int.reduceGE, Int.reduceNeg, Int.reduceAdd, Int.reduceSub, Nat.reduceMul, Nat.reduceLT, Int.reduceToNat, t1, t2, t3, t7, t9, hg, fun H => hk1.alen H, hltI]
    exact ⟨by rw [hr], hEH⟩

def bigF (t : Tm) : Bool := decide (cntT 0 t > 3000)

set_option maxRecDepth 100000 in
theorem big_ok (t : Tm) (ha : Tm.All TmB t) (cells : List AV) (hT : TmR t cells) (H : AHeap) : SCall Try.prog 15 [.agg cells] H fun x H' => x = abl (bigF t) ∧ H' = H := by
  refine SCall.val (SCall.intro mixed cf15 ?_)
  have hT' := hT
  obtain ⟨lx, kx, ls, cs, rfl, hl1, hl2, hk1, hk2⟩ := hT.six
  simp -implicitDefEqProofs only [c15, go_sem, Nat.reduceEqDiff, Nat.reduceAdd, Nat.reduceLeDiff, ↓reduceIte, reduceCtorEq, Int.reduceBEq, Int.reduceBNe, Int.reduceLT, Int.reduceLE, Int.reduceGT, Int.reduceGE, Int.reduceNeg, Int.reduceAdd, Int.reduceSub, Nat.reduceMul, Nat.reduceLT, Int.reduceToNat, hk1.one, hl1.one, hk1.cells, hl1.cells]
  refine i_callA (fs := []) (cs := []) ?_ ?_ (cnt_ok t ha _ hT' 0 (by omega) (by omega) _) ?_
  · rfl
  · simp -implicitDefEqProofs only [go_sem, Nat.reduceEqDiff, Nat.reduceAdd, Nat.reduceLeDiff, ↓reduceIte, reduceCtorEq, Int.reduceBEq, Int.reduceBNe, Int.reduceLT, Int.reduceLE, Int.reduceGT, Int.reduceGE, Int.reduceNeg, Int.reduceAdd, Int.reduceSub, Nat.reduceMul, Nat.reduceLT, Int.reduceToNat]
  rintro x H3 ⟨rfl, rfl⟩
  simp -implicitDefEqProofs only [go_sem, Nat.reduceEqDiff, Nat.reduceAdd, Nat.reduceLeDiff, ↓reduceIte, reduceCtorEq, Int.reduceBEq, Int.reduceBNe, Int.reduceLT, Int.reduceLE, Int.reduceGT, Int.reduceGE, Int.reduceNeg, Int.reduceAdd, Int.reduceSub, Nat.reduceMul, Nat.reduceLT, Int.reduceToNat]
  exact ⟨rfl, (Ext.refl H).new _⟩
end Go.Proofs.Ytooaiddfokbffaa.E

/- What a term that is not too much is bounded by; a term lent. Conditions: none. -/
set_option linter.unusedVariables false
set_option linter.unusedSimpArgs false
namespace Go.Proofs.Ytooaiddfokbffaa.E
open Go Go.Proofs
attribute [local go_sem] s_seq s_ops s_draw s_block s_skip s_ret s_exit i_nil i_cons i_run i_runG s_condQ c_true c_false aop ev_t ev_c updO_at updO_no upd_at t_normal t_ret t_exit b_normal b_ret b_exit a_some ac_v ac_agg ac_ptr ac_slc ac_ro ac_rop ac_fn new_next set_next argTm_zero argTm_succ argTm_nil ab_bool ab_uv beq_self_eq_true Option.some_beq_some Bool.not_not beq_iff_eq decide_true decide_false Bool.not_true Bool.not_false afld aload astore apack alen_str alen_ro alen_slc alen_nil new_get set_get ite_true ite_false Option.map_some Option.bind_some ibin isShift Nat.add_zero Nat.zero_add List.length_cons List.length_nil List.drop_zero List.drop_succ_cons List.take_succ_cons List.take_zero if_true if_false setL List.set_cons_zero List.set_cons_succ List.all_cons List.all_nil one_int one_bool one_str one_nil one_ptr one_slc one_ro one_rop one_fn Bool.and_self Bool.and_true true_and and_true and_self Bool.false_eq_true post_ret post_normal resAll resOne packR Option.some.injEq exists_eq_left' List.map_cons List.map_nil List.nil_append List.append_nil List.cons_append d_nil d_cons k_nil k_cons g_op g_same g_new avBlock forall_eq' List.getElem?_cons_succ List.getElem?_cons_zero List.getElem?_nil okind gOk bne false_imp_iff forall_const imp_self implies_true true_imp_iff i_callG

mutual
def szT : Tm → Nat
  | .mk _ _ _ _ _ ks => 1 + szK ks
def szK : List Tm → Nat
  | [] => 0
  | k :: r => szT k + szK r
end
mutual
def htT : Tm → Nat
  | .mk _ _ _ _ _ ks => 1 + htK ks
def htK : List Tm → Nat
  | [] => 0
  | k :: r => max (htT k) (htK r)
end

theorem htK_mem : ∀ {ks : List Tm} {k : Tm}, k ∈ ks → htT k ≤ htK ks
  | k0 :: ks, k, h => by
    simp only [htK]
    rcases List.mem_cons.1 h with rfl | h
    · omega
    · have := htK_mem h; omega

/-- What a part of a small term may be. -/
def Sml (t : Tm) : Prop := t.name.size ≤ 48015 ∧ t.lv.length ≤ 3000 ∧ t.kids.length ≤ 3000 ∧ ∀ l ∈ t.lv, l.vars.length ≤ 3000

/-! ### A term lent -/
def lentC : List AV := [aint (-71), aint 0, abl false, nostr, nils, nils]
mutual
def LentR : Tm → List AV → Prop
  | .mk f n h s lv ks, cells => ∃ lx kx ls cs, cells = [aint f, aint n, abl h, .v (.string s), lx, kx] ∧ SlR lv.length lx ls ∧ LvsR lv ls ∧ (∃ lo ex, kx = .ro ks.length lo ex cs ∧ ks.length + 1 ≤ lo) ∧ LentK ks cs
def LentK : List Tm → List AV → Prop
  | [], cs => cs.take 6 = lentC
  | k :: ks, cs => LentR k (cs.take 6) ∧ LentK ks (cs.drop 6)
end
theorem LentR.len {t : Tm} {cells : List AV} (h : LentR t cells) : cells.length = 6 := by
  cases t
  simp only [LentR] at h
  obtain ⟨_, _, _, _, rfl, _⟩ := h
  rfl
theorem LentR.tm : ∀ t, ∀ cells, LentR t cells → TmR t cells := by
  refine Tm.rule fun f n hd s lv ks ih cells h => ?_
  simp only [LentR] at h
  obtain ⟨lx, kx, ls, cs, rfl, h1, h2, ⟨lo, ex, rfl, h3⟩, h4⟩ := h
  simp only [TmR]
  refine ⟨lx, _, ls, cs, rfl, h1, h2, .inr ⟨lo, ex, rfl, by omega⟩, ?_⟩
  have key : ∀ (ks' : List Tm), (∀ k ∈ ks', k ∈ ks) → ∀ cs, LentK ks' cs → KsR ks' cs := by
    intro ks'
    induction ks' with
    | nil => intro _ cs _; trivial
    | cons k r ih' =>
      intro hm cs h
      simp only [LentK] at h
      exact ⟨ih k (hm k (List.mem_cons_self ..)) _ h.1, ih' (fun k hk => hm k (List.mem_cons_of_mem _ hk)) _ h.2⟩
  exact key ks (fun _ h => h) cs h4

theorem setL_eq : ∀ (xs l : List AV) (i : Nat), i + xs.length ≤ l.length → setL l i xs = l.take i ++ xs ++ l.drop (i + xs.length)
  | [], l, i, h => by simp [setL]
  | x :: xs, l, i, h => by
    simp only [List.length_cons] at h
    rw [setL, setL_eq xs (l.set i x) (i + 1) (by rw [List.length_set]; omega)]
    have hi : i < l.length := by omega
    rw [List.take_set, List.drop_set_of_lt (by omega)]
    have : (l.take (i + 1)).set i x = l.take i ++ [x] := by
      rw [List.take_succ_eq_append_getElem hi, List.set_append_right _ _ (by rw [List.length_take]; omega), List.length_take, show i - min i l.length = 0 by omega]
      rfl
    rw [this]
    simp only [List.append_assoc, List.cons_append, List.nil_append, List.length_cons]
    rw [show i + 1 + xs.length = i + (xs.length + 1) by omega]

theorem lent_step {l c : List AV} {i n : Nat} (hl : l.length = n * 6) (hi : i < n) (hc : c.length = 6) (hb : i * 6 + 6 ≤ l.length) :
    (setL l (i * 6) c).length = n * 6 ∧ (∀ j, j < n → ((setL l (i * 6) c).drop (j * 6)).take 6 = if j = i then c else (l.drop (j * 6)).take 6) := by
  refine ⟨by rw [setL_length, hl], fun j hj => ?_⟩
  rw [setL_eq _ _ _ (by rw [hc]; omega), hc]
  by_cases h : j = i
  · subst h
    rw [if_pos rfl, List.append_assoc, List.drop_append_of_le_length (by rw [List.length_take]; omega), List.drop_of_length_le (by rw [List.length_take]; omega), List.nil_append, List.take_append_of_le_length (by omega), List.take_of_length_le (by omega)]
  · rw [if_neg h]
    rcases Nat.lt_or_gt_of_ne h with h | h
    · have hj6 : j * 6 + 6 ≤ i * 6 := by omega
      rw [List.append_assoc, List.drop_append_of_le_length (by rw [List.length_take]; omega), List.take_append_of_le_length (by rw [List.length_drop, List.length_take]; omega), List.drop_take, List.take_take, show min 6 (i * 6 - j * 6) = 6 by omega]
    · have hj6 : i * 6 + 6 ≤ j * 6 := by omega
      rw [List.drop_append, List.drop_of_length_le (by rw [List.length_append, List.length_take, hc]; omega), List.nil_append, List.length_append, List.length_take, hc, List.drop_drop, show i * 6 + 6 + (j * 6 - (min (i * 6) l.length + 6)) = j * 6 by omega]

end Go.Proofs.Ytooaiddfokbffaa.E

/- A term that was lent is as it was. Conditions: none. -/
set_option linter.unusedVariables false
set_option linter.unusedSimpArgs false
namespace Go.Proofs.Ytooaiddfokbffaa.E
open Go Go.Proofs
attribute [local go_sem] s_seq s_ops s_draw s_block s_skip s_ret s_exit i_nil i_cons i_run i_runG s_condQ c_true c_false aop ev_t ev_c updO_at updO_no upd_at t_normal t_ret t_exit b_normal b_ret b_exit a_some ac_v ac_agg ac_ptr ac_slc ac_ro ac_rop ac_fn new_next set_next argTm_zero argTm_succ argTm_nil ab_bool ab_uv beq_self_eq_true Option.some_beq_some Bool.not_not beq_iff_eq decide_true decide_false Bool.not_true Bool.not_false afld aload astore apack alen_str alen_ro alen_slc alen_nil new_get set_get ite_true ite_false Option.map_some Option.bind_some ibin isShift Nat.add_zero Nat.zero_add List.length_cons List.length_nil List.drop_zero List.drop_succ_cons List.take_succ_cons List.take_zero if_true if_false setL List.set_cons_zero List.set_cons_succ List.all_cons List.all_nil one_int one_bool one_str one_nil one_ptr one_slc one_ro one_rop one_fn Bool.and_self Bool.and_true true_and and_true and_self Bool.false_eq_true post_ret post_normal resAll resOne packR Option.some.injEq exists_eq_left' List.map_cons List.map_nil List.nil_append List.append_nil List.cons_append d_nil d_cons k_nil k_cons g_op g_same g_new avBlock forall_eq' List.getElem?_cons_succ List.getElem?_cons_zero List.getElem?_nil okind gOk bne false_imp_iff forall_const imp_self implies_true true_imp_iff i_callG

theorem FrzN.six {n : Nat} {H : AHeap} {a1 a2 a3 a4 a5 a6 b1 b2 b3 b4 b5 b6 : AV} (h1 : FrzN n H a1 b1) (h2 : FrzN n H a2 b2) (h3 : FrzN n H a3 b3) (h4 : FrzN n H a4 b4) (h5 : FrzN n H a5 b5) (h6 : FrzN n H a6 b6) :
    FrzN n H (.agg [a1, a2, a3, a4, a5, a6]) (.agg [b1, b2, b3, b4, b5, b6]) :=
  .agg _ _ rfl fun i x y hx hy => by
    match i, hx, hy with
    | 0, hx, hy => simp at hx hy; subst hx hy; exact h1
    | 1, hx, hy => simp at hx hy; subst hx hy; exact h2
    | 2, hx, hy => simp at hx hy; subst hx hy; exact h3
    | 3, hx, hy => simp at hx hy; subst hx hy; exact h4
    | 4, hx, hy => simp at hx hy; subst hx hy; exact h5
    | 5, hx, hy => simp at hx hy; subst hx hy; exact h6

theorem LentK.at : ∀ {ks : List Tm} {cs : List AV}, LentK ks cs → ∀ {i : Nat} (hi : i < ks.length), i * 6 + 6 ≤ cs.length ∧ LentR ks[i] ((cs.drop (i * 6)).take 6)
  | [], _, _, i, hi => by cases hi
  | k :: ks, cs, h, i, hi => by
    simp only [LentK] at h
    cases i with
    | zero =>
      have := h.1.len
      rw [List.length_take] at this
      exact ⟨by omega, by simpa using h.1⟩
    | succ i =>
      obtain ⟨h1, h2⟩ := LentK.at h.2 (i := i) (by simpa using hi)
      rw [List.length_drop] at h1
      rw [List.drop_drop] at h2
      exact ⟨by omega, by rw [show (i + 1) * 6 = 6 + i * 6 by omega]; simpa using h2⟩

theorem LentR.six {t : Tm} {cells : List AV} (h : LentR t cells) : ∃ lx ls cs lo ex, cells = [aint t.form, aint t.n, abl t.hid, .v (.string t.name), lx, .ro t.kids.length lo ex cs] ∧ SlR t.lv.length lx ls ∧ LvsR t.lv ls ∧ t.kids.length + 1 ≤ lo ∧ LentK t.kids cs := by
  cases t
  simp only [LentR] at h
  obtain ⟨lx, kx, ls, cs, rfl, h1, h2, ⟨lo, ex, rfl, h3⟩, h4⟩ := h
  exact ⟨lx, ls, cs, lo, ex, rfl, h1, h2, h3, h4⟩

end Go.Proofs.Ytooaiddfokbffaa.E

/- Parts of a term asked one by one, and its free variables. Conditions: none. -/
set_option linter.unusedVariables false
set_option linter.unusedSimpArgs false
namespace Go.Proofs.Ytooaiddfokbffaa.E
open Go Go.Proofs
attribute [local go_sem] s_seq s_ops s_draw s_block s_skip s_ret s_exit i_nil i_cons i_run i_runG s_condQ c_true c_false aop ev_t ev_c updO_at updO_no upd_at t_normal t_ret t_exit b_normal b_ret b_exit a_some ac_v ac_agg ac_ptr ac_slc ac_ro ac_rop ac_fn new_next set_next argTm_zero argTm_succ argTm_nil ab_bool ab_uv beq_self_eq_true Option.some_beq_some Bool.not_not beq_iff_eq decide_true decide_false Bool.not_true Bool.not_false afld aload astore apack alen_str alen_ro alen_slc alen_nil new_get set_get ite_true ite_false Option.map_some Option.bind_some ibin isShift Nat.add_zero Nat.zero_add List.length_cons List.length_nil List.drop_zero List.drop_succ_cons List.take_succ_cons List.take_zero if_true if_false setL List.set_cons_zero List.set_cons_succ List.all_cons List.all_nil one_int one_bool one_str one_nil one_ptr one_slc one_ro one_rop one_fn Bool.and_self Bool.and_true true_and and_true and_self Bool.false_eq_true post_ret post_normal resAll resOne packR Option.some.injEq exists_eq_left' List.map_cons List.map_nil List.nil_append List.append_nil List.cons_append d_nil d_cons k_nil k_cons g_op g_same g_new avBlock forall_eq' List.getElem?_cons_succ List.getElem?_cons_zero List.getElem?_nil okind gOk bne false_imp_iff forall_const imp_self implies_true true_imp_iff i_callG

section
variable (isF : Tm → Int → List AV → Bool × List AV)
mutual
def anyT (deep : Int) (c : List AV) : Tm → Bool × List AV
  | .mk f n h s lv ks => if (isF (.mk f n h s lv ks) deep c).1 = true then (true, (isF (.mk f n h s lv ks) deep c).2) else anyK f 0 deep (isF (.mk f n h s lv ks) deep c).2 ks
def anyK (f : Int) (i : Nat) (deep : Int) (c : List AV) : List Tm → Bool × List AV
  | [] => (false, c)
  | k :: r => if (anyT (underF f i deep) c k).1 = true then (true, (anyT (underF f i deep) c k).2) else anyK f (i + 1) deep (anyT (underF f i deep) c k).2 r
end
end

theorem underF_bound (f i deep : Int) : deep ≤ underF f i deep ∧ underF f i deep ≤ deep + 1 := by
  unfold underF; split <;> omega

end Go.Proofs.Ytooaiddfokbffaa.E

/- The free variables of a term, and whether a name stands in it. Conditions: none. -/
set_option linter.unusedVariables false
set_option linter.unusedSimpArgs false
namespace Go.Proofs.Ytooaiddfokbffaa.E
open Go Go.Proofs
attribute [local go_sem] s_seq s_ops s_draw s_block s_skip s_ret s_exit i_nil i_cons i_run i_runG s_condQ c_true c_false aop ev_t ev_c updO_at updO_no upd_at t_normal t_ret t_exit b_normal b_ret b_exit a_some ac_v ac_agg ac_ptr ac_slc ac_ro ac_rop ac_fn new_next set_next argTm_zero argTm_succ argTm_nil ab_bool ab_uv beq_self_eq_true Option.some_beq_some Bool.not_not beq_iff_eq decide_true decide_false Bool.not_true Bool.not_false afld aload astore apack alen_str alen_ro alen_slc alen_nil new_get set_get ite_true ite_false Option.map_some Option.bind_some ibin isShift Nat.add_zero Nat.zero_add List.length_cons List.length_nil List.drop_zero List.drop_succ_cons List.take_succ_cons List.take_zero if_true if_false setL List.set_cons_zero List.set_cons_succ List.all_cons List.all_nil one_int one_bool one_str one_nil one_ptr one_slc one_ro one_rop one_fn Bool.and_self Bool.and_true true_and and_true and_self Bool.false_eq_true post_ret post_normal resAll resOne packR Option.some.injEq exists_eq_left' List.map_cons List.map_nil List.nil_append List.append_nil List.cons_append d_nil d_cons k_nil k_cons g_op g_same g_new avBlock forall_eq' List.getElem?_cons_succ List.getElem?_cons_zero List.getElem?_nil okind gOk bne false_imp_iff forall_const imp_self implies_true true_imp_iff i_callG

/-- The greater one. -/
def mx (m q : Int) : Int := if q > m then q else m
mutual
def freeT (deep : Int) : Tm → Int
  | .mk f n _ _ _ ks => if f = 1 then (if n < deep then 0 else n - deep + 1) else freeK f deep 0 0 ks
def freeK (f deep : Int) (i : Nat) (m : Int) : List Tm → Int
  | [] => m
  | k :: r => freeK f deep (i + 1) (mx m (freeT (underF f i deep) k)) r
end

/-- A variable's index, and that it has no kids. -/
def Vok (t : Tm) : Prop := t.kids.length ≤ 4611686018427387904 ∧ (t.form = 1 → (0 ≤ t.n ∧ t.n ≤ 1073741824) ∧ t.kids = [])

def isFree (t : Tm) (deep : Int) (c : List AV) : Bool × List AV :=
  (false, if t.form = 1 then (match c with | [.v (.int .i64 m)] => [aint (mx m (t.n - deep + 1))] | c => c) else c)

theorem check_form {r : Lv → Bool} {t : Tm} (h : checkF r t = 0) : (fitT 0 1 t).1 = true ∧ allF (formF r) t = true := by
  unfold checkF at h
  split at h
  · cases h
  · rename_i h1
    split at h
    · cases h
    · rename_i h2
      exact ⟨by simpa using h1, by simpa using h2⟩

def freeF (r : Lv → Bool) (t : Tm) : Int := if checkF r t = 0 then freeT 0 t else 0

end Go.Proofs.Ytooaiddfokbffaa.E
