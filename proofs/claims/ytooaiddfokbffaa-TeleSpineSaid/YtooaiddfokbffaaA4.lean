/- Texts of the proof, one behind the other. Conditions: none. -/
import Derived.Test.YtooaiddfokbffaaA3
import Derived.Test.YtooaiddfokbffaaRows
import Derived.KernelRfl
/- Whether a term has its forms, as the reference asks it; its check and its size. Conditions: none. -/
set_option linter.unusedVariables false
set_option linter.unusedSimpArgs false
namespace Go.Proofs.Ytooaiddfokbffaa.E
open Go Go.Proofs
attribute [local go_sem] s_seq s_ops s_draw s_block s_skip s_ret s_exit i_nil i_cons i_run i_runG s_condQ c_true c_false aop ev_t ev_c updO_at updO_no upd_at t_normal t_ret t_exit b_normal b_ret b_exit a_some ac_v ac_agg ac_ptr ac_slc ac_ro ac_rop ac_fn new_next set_next argTm_zero argTm_succ argTm_nil ab_bool ab_uv beq_self_eq_true Option.some_beq_some Bool.not_not beq_iff_eq decide_true decide_false Bool.not_true Bool.not_false afld aload astore apack alen_str alen_ro alen_slc alen_nil new_get set_get ite_true ite_false Option.map_some Option.bind_some ibin isShift Nat.add_zero Nat.zero_add List.length_cons List.length_nil List.drop_zero List.drop_succ_cons List.take_succ_cons List.take_zero if_true if_false setL List.set_cons_zero List.set_cons_succ List.all_cons List.all_nil one_int one_bool one_str one_nil one_ptr one_slc one_ro one_rop one_fn Bool.and_self Bool.and_true true_and and_true and_self Bool.false_eq_true post_ret post_normal resAll resOne packR Option.some.injEq exists_eq_left' List.map_cons List.map_nil List.nil_append List.append_nil List.cons_append d_nil d_cons k_nil k_cons g_op g_same g_new avBlock forall_eq' List.getElem?_cons_succ List.getElem?_cons_zero List.getElem?_nil okind gOk bne false_imp_iff forall_const imp_self implies_true true_imp_iff i_callG

set_option maxRecDepth 100000 in
theorem kids2_ok (f : Int) (H : AHeap) : SCall Try.prog 131 [aint f] H fun x H' => x = aint (kidsF f) ∧ H' = H := by
  refine SCall.intro mixed cf131 ?_
  by_cases e1 : f = 1
  · subst e1; simp -implicitDefEqProofs only [c131, go_sem, Nat.reduceEqDiff, Nat.reduceAdd, Nat.reduceLeDiff, ↓reduceIte, reduceCtorEq, Int.reduceBEq, Int.reduceBNe, Int.reduceLT, Int.reduceLE, Int.reduceGT, Int.reduceGE, Int.reduceNeg, Int.reduceAdd, Int.reduceSub, Nat.reduceMul, Nat.reduceLT, Int.reduceToNat]; rfl
  by_cases e2 : f = 2
  · subst e2; simp -implicitDefEqProofs only [c131, go_sem, Nat.reduceEqDiff, Nat.reduceAdd, Nat.reduceLeDiff, ↓reduceIte, reduceCtorEq, Int.reduceBEq, Int.reduceBNe, Int.reduceLT, Int.reduceLE, Int.reduceGT, Int.reduceGE, Int.reduceNeg, Int.reduceAdd, Int.reduceSub, Nat.reduceMul, Nat.reduceLT, Int.reduceToNat]; rfl
  by_cases e3 : f = 10
  · subst e3; simp -implicitDefEqProofs only [c131, go_sem, Nat.reduceEqDiff, Nat.reduceAdd, Nat.reduceLeDiff, ↓reduceIte, reduceCtorEq, Int.reduceBEq, Int.reduceBNe, Int.reduceLT, Int.reduceLE, Int.reduceGT, Int.reduceGE, Int.reduceNeg, Int.reduceAdd, Int.reduceSub, Nat.reduceMul, Nat.reduceLT, Int.reduceToNat]; rfl
  by_cases e4 : f = 11
  · subst e4; simp -implicitDefEqProofs only [c131, go_sem, Nat.reduceEqDiff, Nat.reduceAdd, Nat.reduceLeDiff, ↓reduceIte, reduceCtorEq, Int.reduceBEq, Int.reduceBNe, Int.reduceLT, Int.reduceLE, Int.reduceGT, Int.reduceGE, Int.reduceNeg, Int.reduceAdd, Int.reduceSub, Nat.reduceMul, Nat.reduceLT, Int.reduceToNat]; rfl
  by_cases e5 : f = 8
  · subst e5; simp -implicitDefEqProofs only [c131, go_sem, Nat.reduceEqDiff, Nat.reduceAdd, Nat.reduceLeDiff, ↓reduceIte, reduceCtorEq, Int.reduceBEq, Int.reduceBNe, Int.reduceLT, Int.reduceLE, Int.reduceGT, Int.reduceGE, Int.reduceNeg, Int.reduceAdd, Int.reduceSub, Nat.reduceMul, Nat.reduceLT, Int.reduceToNat]; rfl
  by_cases e6 : f = 9
  · subst e6; simp -implicitDefEqProofs only [c131, go_sem, Nat.reduceEqDiff, Nat.reduceAdd, Nat.reduceLeDiff, ↓reduceIte, reduceCtorEq, Int.reduceBEq, Int.reduceBNe, Int.reduceLT, Int.reduceLE, Int.reduceGT, Int.reduceGE, Int.reduceNeg, Int.reduceAdd, Int.reduceSub, Nat.reduceMul, Nat.reduceLT, Int.reduceToNat]; rfl
  by_cases e7 : f = 7
  · subst e7; simp -implicitDefEqProofs only [c131, go_sem, Nat.reduceEqDiff, Nat.reduceAdd, Nat.reduceLeDiff, ↓reduceIte, reduceCtorEq, Int.reduceBEq, Int.reduceBNe, Int.reduceLT, Int.reduceLE, Int.reduceGT, Int.reduceGE, Int.reduceNeg, Int.reduceAdd, Int.reduceSub, Nat.reduceMul, Nat.reduceLT, Int.reduceToNat]; rfl
  by_cases e8 : f = 3
  · subst e8; simp -implicitDefEqProofs only [c131, go_sem, Nat.reduceEqDiff, Nat.reduceAdd, Nat.reduceLeDiff, ↓reduceIte, reduceCtorEq, Int.reduceBEq, Int.reduceBNe, Int.reduceLT, Int.reduceLE, Int.reduceGT, Int.reduceGE, Int.reduceNeg, Int.reduceAdd, Int.reduceSub, Nat.reduceMul, Nat.reduceLT, Int.reduceToNat]; rfl
  by_cases e9 : f = 4
  · subst e9; simp -implicitDefEqProofs only [c131, go_sem, Nat.reduceEqDiff, Nat.reduceAdd, Nat.reduceLeDiff, ↓reduceIte, reduceCtorEq, Int.reduceBEq, Int.reduceBNe, Int.reduceLT, Int.reduceLE, Int.reduceGT, Int.reduceGE, Int.reduceNeg, Int.reduceAdd, Int.reduceSub, Nat.reduceMul, Nat.reduceLT, Int.reduceToNat]; rfl
  by_cases e10 : f = 5
  · subst e10; simp -implicitDefEqProofs only [c131, go_sem, Nat.reduceEqDiff, Nat.reduceAdd, Nat.reduceLeDiff, ↓reduceIte, reduceCtorEq, Int.reduceBEq, Int.reduceBNe, Int.reduceLT, Int.reduceLE, Int.reduceGT, Int.reduceGE, Int.reduceNeg, Int.reduceAdd, Int.reduceSub, Nat.reduceMul, Nat.reduceLT, Int.reduceToNat]; rfl
  by_cases e11 : f = 6
  · subst e11; simp -implicitDefEqProofs only [c131, go_sem, Nat.reduceEqDiff, Nat.reduceAdd, Nat.reduceLeDiff, ↓reduceIte, reduceCtorEq, Int.reduceBEq, Int.reduceBNe, Int.reduceLT, Int.reduceLE, Int.reduceGT, Int.reduceGE, Int.reduceNeg, Int.reduceAdd, Int.reduceSub, Nat.reduceMul, Nat.reduceLT, Int.reduceToNat]; rfl
  simp -implicitDefEqProofs only [c131, go_sem, Nat.reduceEqDiff, Nat.reduceAdd, Nat.reduceLeDiff, ↓reduceIte, reduceCtorEq, Int.reduceBEq, Int.reduceBNe, Int.reduceLT, Int.reduceLE, Int.reduceGT, Int.reduceGE, Int.reduceNeg, Int.reduceAdd, Int.reduceSub, Nat.reduceMul, Nat.reduceLT, Int.reduceToNat, bne_of e1, bne_of e2, bne_of e3, bne_of e4, bne_of e5, bne_of e6, bne_of e7, bne_of e8, bne_of e9, bne_of e10, bne_of e11]
  simp only [kidsF, e1, e2, e3, e4, e5, e6, e7, e8, e9, e10, e11, if_false]

/-- The reference tells whether a level is canonical. -/
def CanSpec2 (r : Lv → Bool) (l : Lv) : Prop := ∀ (vx : AV) (vs : List AV) (H : AHeap), SlR l.vars.length vx vs → VarsR l.vars vs → SCall Try.prog 132 [.agg [aint l.n, vx]] H fun x H' => x = abl (r l) ∧ H' = H
def Fine2 (r : Lv → Bool) (t : Tm) : Prop := t.lv.length ≤ 4611686018427387904 ∧ t.kids.length ≤ 4611686018427387904 ∧ ∀ l ∈ t.lv, CanSpec2 r l

theorem formF_eq (r : Lv → Bool) (f n : Int) (hid : Bool) (s : ByteArray) (lv : List Lv) (ks : List Tm) (hk : kidsF f = (ks.length : Int)) : formF r (.mk f n hid s lv ks) = if f = 1 ∨ f = 11 then decide (n ≥ 0) && decide (n ≤ 1073741824)
      else if f = 7 then headIs 6 ks
      else if f = 2 then ((lv.length : Int) == 1) && lv.all r
      else if f = 10 then !(s.data.toList == []) && decide ((s.size : Int) ≤ 60) && lv.all r
      else true := by
  simp only [formF, Tm.form, Tm.kids, Tm.n, Tm.lv, Tm.name, ne_eq, hk, not_true_eq_false, if_false]
  rfl

set_option maxRecDepth 100000 in
theorem formed2_ok (r : Lv → Bool) : ∀ t, Tm.All (Fine2 r) t → ∀ (cells : List AV), TmR t cells → ∀ (H : AHeap),
    SCall Try.prog 87 [.agg cells] H fun x H' => x = abl (allF (formF r) t) ∧ H' = H := by
  refine Tm.rule fun f n hid s lv ks ih hall cells hT H => ?_
  simp only [Tm.All] at hall
  obtain ⟨⟨hn1, hn2, hcan⟩, hallK⟩ := hall
  simp only [Tm.lv, Tm.kids] at hn1 hn2 hcan
  refine SCall.val (SCall.intro mixed cf87 ?_)
  obtain ⟨lx, kx, ls, cs, rfl, hl1, hl2, hk1, hk2⟩ := hT.six
  simp only [Tm.form, Tm.n, Tm.hid, Tm.name, Tm.lv, Tm.kids] at hl1 hl2 hk1 hk2 ⊢
  have w1 := fun H => hk1.alen H
  have w2 := fun H => hl1.alen H
  simp -implicitDefEqProofs only [c87, go_sem, Nat.reduceEqDiff, Nat.reduceAdd, Nat.reduceLeDiff, ↓reduceIte, reduceCtorEq, Int.reduceBEq, Int.reduceBNe, Int.reduceLT, Int.reduceLE, Int.reduceGT, Int.reduceGE, Int.reduceNeg, Int.reduceAdd, Int.reduceSub, Nat.reduceMul, Nat.reduceLT, Int.reduceToNat, hk1.one, hl1.one, hk1.cells, hl1.cells, w1, w2]
  refine i_callA (fs := []) (cs := []) (fid := 131) ?_ ?_ (kids2_ok f _) ?_
  · rfl
  · simp -implicitDefEqProofs only [go_sem, Nat.reduceEqDiff, Nat.reduceAdd, Nat.reduceLeDiff, ↓reduceIte, reduceCtorEq, Int.reduceBEq, Int.reduceBNe, Int.reduceLT, Int.reduceLE, Int.reduceGT, Int.reduceGE, Int.reduceNeg, Int.reduceAdd, Int.reduceSub, Nat.reduceMul, Nat.reduceLT, Int.reduceToNat]
  rintro x H3 ⟨rfl, rfl⟩
  have hE : ∀ o, Ext H (H.new o) := ext_new H
  by_cases hk : kidsF f = (ks.length : Int)
  case neg =>
    have hv : allF (formF r) (.mk f n hid s lv ks) = false := by
      simp only [allF, formF, Tm.form, Tm.kids, ne_eq, hk, not_false_eq_true, if_true, Bool.false_and]
    by_cases h0 : kidsF f < 0
    · simp -implicitDefEqProofs only [go_sem, Nat.reduceEqDiff, Nat.reduceAdd, Nat.reduceLeDiff, ↓reduceIte, reduceCtorEq, Int.reduceBEq, Int.reduceBNe, Int.reduceLT, Int.reduceLE, Int.reduceGT, Int.reduceGE, Int.reduceNeg, Int.reduceAdd, Int.reduceSub, Nat.reduceMul, Nat.reduceLT, Int.reduceToNat, w1, w2, h0]
      exact ⟨by rw [hv], hE _⟩
    · simp -implicitDefEqProofs only [go_sem, Nat.reduceEqDiff, Nat.reduceAdd, Nat.reduceLeDiff, ↓reduceIte, reduceCtorEq, Int.reduceBEq, Int.reduceBNe, Int.reduceLT, Int.reduceLE, Int.reduceGT, Int.reduceGE, Int.reduceNeg, Int.reduceAdd, Int.reduceSub, Nat.reduceMul, Nat.reduceLT, Int.reduceToNat, w1, w2, h0, bne_of hk]
      exact ⟨by rw [hv], hE _⟩
  have hform := formF_eq r f n hid s lv ks hk
  rw [hk]
  have h0 : ¬ (ks.length : Int) < 0 := by omega
  have hkb : ((ks.length : Int) == (ks.length : Int)) = true := by simp
  by_cases e1 : f = 1
  · subst e1
    have hform : formF r (.mk 1 n hid s lv ks) = (decide (n ≥ 0) && decide (n ≤ 1073741824)) := by rw [hform]; rfl
    by_cases hn0 : n < 0
    · have hn0' : ¬ n ≥ 0 := by omega
      simp -implicitDefEqProofs only [go_sem, Nat.reduceEqDiff, Nat.reduceAdd, Nat.reduceLeDiff, ↓reduceIte, reduceCtorEq, Int.reduceBEq, Int.reduceBNe, Int.reduceLT, Int.reduceLE, Int.reduceGT, Int.reduceGE, Int.reduceNeg, Int.reduceAdd, Int.reduceSub, Nat.reduceMul, Nat.reduceLT, Int.reduceToNat, w1, w2, h0, hkb, hn0]
      exact ⟨by simp only [allF, hform, hn0', decide_false, Bool.false_and], hE _⟩
    have hn0' : n ≥ 0 := by omega
    by_cases hn1' : n > 1073741824
    · have hn1'' : ¬ n ≤ 1073741824 := by omega
      simp -implicitDefEqProofs only [go_sem, Nat.reduceEqDiff, Nat.reduceAdd, Nat.reduceLeDiff, ↓reduceIte, reduceCtorEq, Int.reduceBEq, Int.reduceBNe, Int.reduceLT, Int.reduceLE, Int.reduceGT, Int.reduceGE, Int.reduceNeg, Int.reduceAdd, Int.reduceSub, Nat.reduceMul, Nat.reduceLT, Int.reduceToNat, w1, w2, h0, hkb, hn0, hn1']
      exact ⟨by simp only [allF, hform, hn1'', decide_false, Bool.false_and, Bool.and_false], hE _⟩
    have hn1'' : n ≤ 1073741824 := by omega
    have hres : allF (formF r) (.mk 1 n hid s lv ks) = allK (formF r) ks := by simp only [allF, hform, hn0', hn1'', decide_true, Bool.true_and]
    simp -implicitDefEqProofs only [go_sem, Nat.reduceEqDiff, Nat.reduceAdd, Nat.reduceLeDiff, ↓reduceIte, reduceCtorEq, Int.reduceBEq, Int.reduceBNe, Int.reduceLT, Int.reduceLE, Int.reduceGT, Int.reduceGE, Int.reduceNeg, Int.reduceAdd, Int.reduceSub, Nat.reduceMul, Nat.reduceLT, Int.reduceToNat, w1, w2, h0, hkb, hn0, hn1']
    refine swp_loop (fun k st => ∃ (i : Nat), k = ks.length - i ∧ i ≤ ks.length ∧ st.tm 1 = .ptr H.next 0 ∧ st.tm 3 = aint ks.length ∧ st.tm 6 = aint i ∧ Ext (H.new (.cells [aint 1, aint n, abl hid, .v (.string s), lx, kx])) st.heap ∧ allK (formF r) ks = allK (formF r) (ks.drop i)) (k := ks.length) ⟨0, ?_⟩ ?_
    · exact ⟨by omega, by omega, rfl, rfl, rfl, ⟨Nat.le_refl _, fun _ _ => rfl⟩, by simp⟩
    rintro k ⟨tm, H2⟩ ⟨i, rfl, hi, t1, t3, t6, ⟨hx1, hx2⟩, hr⟩
    simp only at t1 t3 t6 hx1 hx2
    rw [new_next] at hx1
    have hb : H2.get H.next = some (.cells [aint 1, aint n, abl hid, .v (.string s), lx, kx]) := by
      rw [hx2 H.next (by rw [new_next]; omega), new_get, if_pos rfl]
    have hE2 : Ext H H2 := ⟨by omega, fun b hb' => by rw [hx2 b (by rw [new_next]; omega), new_get, if_neg (by omega)]⟩
    by_cases hlt : i < ks.length
    · obtain ⟨kc, hkc, hle, hld⟩ := hk2.load (List.getElem?_eq_getElem hlt)
      have hix := hk1.aix 6 hlt
      have hdrop : ks.drop i = ks[i] :: ks.drop (i + 1) := List.drop_eq_getElem_cons hlt
      have hltI : (i : Int) < (ks.length : Int) := by omega
      have w3 : IntKind.i64.wrap ((i : Int) + 1) = (i : Int) + 1 := i64_ok _ (by omega)
      simp -implicitDefEqProofs only [go_sem, Nat.reduceEqDiff, Nat.reduceAdd, Nat.reduceLeDiff, ↓reduceIte, reduceCtorEq, Int.reduceBEq, Int.reduceBNe, Int.reduceLT, Int.reduceLE, Int.reduceGT, Int.reduceGE, Int.reduceNeg, Int.reduceAdd, Int.reduceSub, Nat.reduceMul, Nat.reduceLT, Int.reduceToNat, t1, t3, t6, hb, hltI, hix, hle, hld]
      refine i_callA (fs := []) (cs := []) (fid := 87) ?_ ?_ (ih ks[i] (List.getElem_mem hlt) (hallK.mem _ (List.getElem_mem hlt)) _ hkc _) ?_
      · rfl
      · simp -implicitDefEqProofs only [go_sem, Nat.reduceEqDiff, Nat.reduceAdd, Nat.reduceLeDiff, ↓reduceIte, reduceCtorEq, Int.reduceBEq, Int.reduceBNe, Int.reduceLT, Int.reduceLE, Int.reduceGT, Int.reduceGE, Int.reduceNeg, Int.reduceAdd, Int.reduceSub, Nat.reduceMul, Nat.reduceLT, Int.reduceToNat]
      rintro x H3 ⟨rfl, rfl⟩
      cases hf1 : allF (formF r) ks[i] with
      | true =>
        simp -implicitDefEqProofs only [go_sem, Nat.reduceEqDiff, Nat.reduceAdd, Nat.reduceLeDiff, ↓reduceIte, reduceCtorEq, Int.reduceBEq, Int.reduceBNe, Int.reduceLT, Int.reduceLE, Int.reduceGT, Int.reduceGE, Int.reduceNeg, Int.reduceAdd, Int.reduceSub, Nat.reduceMul, Nat.reduceLT, Int.reduceToNat, t6, w3]
        refine ⟨ks.length - (i + 1), by omega, i + 1, rfl, ?_⟩
        and_intros
        all_goals first | omega | assumption | rfl | exact ⟨by rw [new_next]; omega, hx2⟩ | (rw [hr, hdrop]; simp only [allK, hf1, Bool.true_and]) | simp
      | false =>
        simp -implicitDefEqProofs only [go_sem, Nat.reduceEqDiff, Nat.reduceAdd, Nat.reduceLeDiff, ↓reduceIte, reduceCtorEq, Int.reduceBEq, Int.reduceBNe, Int.reduceLT, Int.reduceLE, Int.reduceGT, Int.reduceGE, Int.reduceNeg, Int.reduceAdd, Int.reduceSub, Nat.reduceMul, Nat.reduceLT, Int.reduceToNat]
        refine ⟨?_, hE2⟩
        rw [hres, hr, hdrop]; simp only [allK, hf1, Bool.false_and]
    · have hir : i = ks.length := by omega
      have hltI : ¬ (i : Int) < (ks.length : Int) := by omega
      simp -implicitDefEqProofs only [go_sem, Nat.reduceEqDiff, Nat.reduceAdd, Nat.reduceLeDiff, ↓reduceIte, reduceCtorEq, Int.reduceBEq, Int.reduceBNe, Int.reduceLT, Int.reduceLE, Int.reduceGT, Int.reduceGE, Int.reduceNeg, Int.reduceAdd, Int.reduceSub, Nat.reduceMul, Nat.reduceLT, Int.reduceToNat, t3, t6, hltI]
      refine ⟨?_, hE2⟩
      rw [hres, hr, hir, List.drop_length]
      rfl
  by_cases e11 : f = 11
  · subst e11
    have hform : formF r (.mk 11 n hid s lv ks) = (decide (n ≥ 0) && decide (n ≤ 1073741824)) := by rw [hform]; rfl
    by_cases hn0 : n < 0
    · have hn0' : ¬ n ≥ 0 := by omega
      simp -implicitDefEqProofs only [go_sem, Nat.reduceEqDiff, Nat.reduceAdd, Nat.reduceLeDiff, ↓reduceIte, reduceCtorEq, Int.reduceBEq, Int.reduceBNe, Int.reduceLT, Int.reduceLE, Int.reduceGT, Int.reduceGE, Int.reduceNeg, Int.reduceAdd, Int.reduceSub, Nat.reduceMul, Nat.reduceLT, Int.reduceToNat, w1, w2, h0, hkb, hn0]
      exact ⟨by simp only [allF, hform, hn0', decide_false, Bool.false_and], hE _⟩
    have hn0' : n ≥ 0 := by omega
    by_cases hn1' : n > 1073741824
    · have hn1'' : ¬ n ≤ 1073741824 := by omega
      simp -implicitDefEqProofs only [go_sem, Nat.reduceEqDiff, Nat.reduceAdd, Nat.reduceLeDiff, ↓reduceIte, reduceCtorEq, Int.reduceBEq, Int.reduceBNe, Int.reduceLT, Int.reduceLE, Int.reduceGT, Int.reduceGE, Int.reduceNeg, Int.reduceAdd, Int.reduceSub, Nat.reduceMul, Nat.reduceLT, Int.reduceToNat, w1, w2, h0, hkb, hn0, hn1']
      exact ⟨by simp only [allF, hform, hn1'', decide_false, Bool.false_and, Bool.and_false], hE _⟩
    have hn1'' : n ≤ 1073741824 := by omega
    have hres : allF (formF r) (.mk 11 n hid s lv ks) = allK (formF r) ks := by simp only [allF, hform, hn0', hn1'', decide_true, Bool.true_and]
    simp -implicitDefEqProofs only [go_sem, Nat.reduceEqDiff, Nat.reduceAdd, Nat.reduceLeDiff, ↓reduceIte, reduceCtorEq, Int.reduceBEq, Int.reduceBNe, Int.reduceLT, Int.reduceLE, Int.reduceGT, Int.reduceGE, Int.reduceNeg, Int.reduceAdd, Int.reduceSub, Nat.reduceMul, Nat.reduceLT, Int.reduceToNat, w1, w2, h0, hkb, hn0, hn1']
    refine swp_loop (fun k st => ∃ (i : Nat), k = ks.length - i ∧ i ≤ ks.length ∧ st.tm 1 = .ptr H.next 0 ∧ st.tm 3 = aint ks.length ∧ st.tm 6 = aint i ∧ Ext (H.new (.cells [aint 11, aint n, abl hid, .v (.string s), lx, kx])) st.heap ∧ allK (formF r) ks = allK (formF r) (ks.drop i)) (k := ks.length) ⟨0, ?_⟩ ?_
    · exact ⟨by omega, by omega, rfl, rfl, rfl, ⟨Nat.le_refl _, fun _ _ => rfl⟩, by simp⟩
    rintro k ⟨tm, H2⟩ ⟨i, rfl, hi, t1, t3, t6, ⟨hx1, hx2⟩, hr⟩
    simp only at t1 t3 t6 hx1 hx2
    rw [new_next] at hx1
    have hb : H2.get H.next = some (.cells [aint 11, aint n, abl hid, .v (.string s), lx, kx]) := by
      rw [hx2 H.next (by rw [new_next]; omega), new_get, if_pos rfl]
    have hE2 : Ext H H2 := ⟨by omega, fun b hb' => by rw [hx2 b (by rw [new_next]; omega), new_get, if_neg (by omega)]⟩
    by_cases hlt : i < ks.length
    · obtain ⟨kc, hkc, hle, hld⟩ := hk2.load (List.getElem?_eq_getElem hlt)
      have hix := hk1.aix 6 hlt
      have hdrop : ks.drop i = ks[i] :: ks.drop (i + 1) := List.drop_eq_getElem_cons hlt
      have hltI : (i : Int) < (ks.length : Int) := by omega
      have w3 : IntKind.i64.wrap ((i : Int) + 1) = (i : Int) + 1 := i64_ok _ (by omega)
      simp -implicitDefEqProofs only [go_sem, Nat.reduceEqDiff, Nat.reduceAdd, Nat.reduceLeDiff, ↓reduceIte, reduceCtorEq, Int.reduceBEq, Int.reduceBNe, Int.reduceLT, Int.reduceLE, Int.reduceGT, Int.reduceGE, Int.reduceNeg, Int.reduceAdd, Int.reduceSub, Nat.reduceMul, Nat.reduceLT, Int.reduceToNat, t1, t3, t6, hb, hltI, hix, hle, hld]
      refine i_callA (fs := []) (cs := []) (fid := 87) ?_ ?_ (ih ks[i] (List.getElem_mem hlt) (hallK.mem _ (List.getElem_mem hlt)) _ hkc _) ?_
      · rfl
      · simp -implicitDefEqProofs only [go_sem, Nat.reduceEqDiff, Nat.reduceAdd, Nat.reduceLeDiff, ↓reduceIte, reduceCtorEq, Int.reduceBEq, Int.reduceBNe, Int.reduceLT, Int.reduceLE, Int.reduceGT, Int.reduceGE, Int.reduceNeg, Int.reduceAdd, Int.reduceSub, Nat.reduceMul, Nat.reduceLT, Int.reduceToNat]
      rintro x H3 ⟨rfl, rfl⟩
      cases hf1 : allF (formF r) ks[i] with
      | true =>
        simp -implicitDefEqProofs only [go_sem, Nat.reduceEqDiff, Nat.reduceAdd, Nat.reduceLeDiff, ↓reduceIte, reduceCtorEq, Int.reduceBEq, Int.reduceBNe, Int.reduceLT, Int.reduceLE, Int.reduceGT, Int.reduceGE, Int.reduceNeg, Int.reduceAdd, Int.reduceSub, Nat.reduceMul, Nat.reduceLT, Int.reduceToNat, t6, w3]
        refine ⟨ks.length - (i + 1), by omega, i + 1, rfl, ?_⟩
        and_intros
        all_goals first | omega | assumption | rfl | exact ⟨by rw [new_next]; omega, hx2⟩ | (rw [hr, hdrop]; simp only [allK, hf1, Bool.true_and]) | simp
      | false =>
        simp -implicitDefEqProofs only [go_sem, Nat.reduceEqDiff, Nat.reduceAdd, Nat.reduceLeDiff, ↓reduceIte, reduceCtorEq, Int.reduceBEq, Int.reduceBNe, Int.reduceLT, Int.reduceLE, Int.reduceGT, Int.reduceGE, Int.reduceNeg, Int.reduceAdd, Int.reduceSub, Nat.reduceMul, Nat.reduceLT, Int.reduceToNat]
        refine ⟨?_, hE2⟩
        rw [hres, hr, hdrop]; simp only [allK, hf1, Bool.false_and]
    · have hir : i = ks.length := by omega
      have hltI : ¬ (i : Int) < (ks.length : Int) := by omega
      simp -implicitDefEqProofs only [go_sem, Nat.reduceEqDiff, Nat.reduceAdd, Nat.reduceLeDiff, ↓reduceIte, reduceCtorEq, Int.reduceBEq, Int.reduceBNe, Int.reduceLT, Int.reduceLE, Int.reduceGT, Int.reduceGE, Int.reduceNeg, Int.reduceAdd, Int.reduceSub, Nat.reduceMul, Nat.reduceLT, Int.reduceToNat, t3, t6, hltI]
      refine ⟨?_, hE2⟩
      rw [hres, hr, hir, List.drop_length]
      rfl
  by_cases e7 : f = 7
  · subst e7
    have hform : formF r (.mk 7 n hid s lv ks) = headIs 6 ks := by rw [hform]; rfl
    have hlen : ks.length = 3 := by
      have : kidsF 7 = 3 := rfl
      omega
    obtain ⟨k, hk0⟩ : ∃ k, ks[0]? = some k := ⟨_, List.getElem?_eq_getElem (by omega)⟩
    have hhead : headIs 6 ks = (k.form == 6) := by
      cases ks with
      | nil => simp at hk0
      | cons k' ks' => simp at hk0; subst hk0; rfl
    have hix := hk1.aix 6 (i := 0) (by omega)
    obtain ⟨kc, hkc, hle, hld⟩ := hk2.load (i := 0) (k := k) hk0
    obtain ⟨lx1, kx1, ls1, cs1, hkc6, _⟩ := hkc.six
    rw [hkc6] at hld
    simp only [Nat.zero_mul, Nat.zero_add, List.drop_zero, Int.natCast_zero, Int.ofNat_zero, Int.ofNat_eq_natCast, Int.cast_ofNat_Int] at hle hld hix
    have hle1 : 1 ≤ cs.length := by omega
    have hld1 : cs.take 1 = [aint k.form] := by
      have := congrArg (List.take 1) hld
      rw [List.take_take] at this
      exact this
    cases h6 : (k.form == 6) with
    | false =>
      simp -implicitDefEqProofs only [go_sem, Nat.reduceEqDiff, Nat.reduceAdd, Nat.reduceLeDiff, ↓reduceIte, reduceCtorEq, Int.reduceBEq, Int.reduceBNe, Int.reduceLT, Int.reduceLE, Int.reduceGT, Int.reduceGE, Int.reduceNeg, Int.reduceAdd, Int.reduceSub, Nat.reduceMul, Nat.reduceLT, Int.reduceToNat, w1, w2, h0, hkb, hix, hle1, hld1, h6]
      exact ⟨by simp only [allF, hform, hhead, h6, Bool.false_and], hE _⟩
    | true =>
    have hres : allF (formF r) (.mk 7 n hid s lv ks) = allK (formF r) ks := by simp only [allF, hform, hhead, h6, Bool.true_and]
    clear hle hld hix hkc hkc6
    have hix := hk1.aix 6 (i := 0) (by omega)
    simp only [Nat.zero_mul, Int.natCast_zero, Int.ofNat_zero, Int.ofNat_eq_natCast, Int.cast_ofNat_Int] at hix
    simp -implicitDefEqProofs only [go_sem, Nat.reduceEqDiff, Nat.reduceAdd, Nat.reduceLeDiff, ↓reduceIte, reduceCtorEq, Int.reduceBEq, Int.reduceBNe, Int.reduceLT, Int.reduceLE, Int.reduceGT, Int.reduceGE, Int.reduceNeg, Int.reduceAdd, Int.reduceSub, Nat.reduceMul, Nat.reduceLT, Int.reduceToNat, w1, w2, h0, hkb, hix, hle1, hld1, h6]
    clear hix
    refine swp_loop (fun k st => ∃ (i : Nat), k = ks.length - i ∧ i ≤ ks.length ∧ st.tm 1 = .ptr H.next 0 ∧ st.tm 3 = aint ks.length ∧ st.tm 6 = aint i ∧ Ext (H.new (.cells [aint 7, aint n, abl hid, .v (.string s), lx, kx])) st.heap ∧ allK (formF r) ks = allK (formF r) (ks.drop i)) (k := ks.length) ⟨0, ?_⟩ ?_
    · exact ⟨by omega, by omega, rfl, rfl, rfl, ⟨Nat.le_refl _, fun _ _ => rfl⟩, by simp⟩
    rintro k ⟨tm, H2⟩ ⟨i, rfl, hi, t1, t3, t6, ⟨hx1, hx2⟩, hr⟩
    simp only at t1 t3 t6 hx1 hx2
    rw [new_next] at hx1
    have hb : H2.get H.next = some (.cells [aint 7, aint n, abl hid, .v (.string s), lx, kx]) := by
      rw [hx2 H.next (by rw [new_next]; omega), new_get, if_pos rfl]
    have hE2 : Ext H H2 := ⟨by omega, fun b hb' => by rw [hx2 b (by rw [new_next]; omega), new_get, if_neg (by omega)]⟩
    by_cases hlt : i < ks.length
    · obtain ⟨kc, hkc, hle, hld⟩ := hk2.load (List.getElem?_eq_getElem hlt)
      have hix := hk1.aix 6 hlt
      have hdrop : ks.drop i = ks[i] :: ks.drop (i + 1) := List.drop_eq_getElem_cons hlt
      have hltI : (i : Int) < (ks.length : Int) := by omega
      have w3 : IntKind.i64.wrap ((i : Int) + 1) = (i : Int) + 1 := i64_ok _ (by omega)
      simp -implicitDefEqProofs only [go_sem, Nat.reduceEqDiff, Nat.reduceAdd, Nat.reduceLeDiff, ↓reduceIte, reduceCtorEq, Int.reduceBEq, Int.reduceBNe, Int.reduceLT, Int.reduceLE, Int.reduceGT, Int.reduceGE, Int.reduceNeg, Int.reduceAdd, Int.reduceSub, Nat.reduceMul, Nat.reduceLT, Int.reduceToNat, t1, t3, t6, hb, hltI, hix, hle, hld]
      refine i_callA (fs := []) (cs := []) (fid := 87) ?_ ?_ (ih ks[i] (List.getElem_mem hlt) (hallK.mem _ (List.getElem_mem hlt)) _ hkc _) ?_
      · rfl
      · simp -implicitDefEqProofs only [go_sem, Nat.reduceEqDiff, Nat.reduceAdd, Nat.reduceLeDiff, ↓reduceIte, reduceCtorEq, Int.reduceBEq, Int.reduceBNe, Int.reduceLT, Int.reduceLE, Int.reduceGT, Int.reduceGE, Int.reduceNeg, Int.reduceAdd, Int.reduceSub, Nat.reduceMul, Nat.reduceLT, Int.reduceToNat]
      rintro x H3 ⟨rfl, rfl⟩
      cases hf1 : allF (formF r) ks[i] with
      | true =>
        simp -implicitDefEqProofs only [go_sem, Nat.reduceEqDiff, Nat.reduceAdd, Nat.reduceLeDiff, ↓reduceIte, reduceCtorEq, Int.reduceBEq, Int.reduceBNe, Int.reduceLT, Int.reduceLE, Int.reduceGT, Int.reduceGE, Int.reduceNeg, Int.reduceAdd, Int.reduceSub, Nat.reduceMul, Nat.reduceLT, Int.reduceToNat, t6, w3]
        refine ⟨ks.length - (i + 1), by omega, i + 1, rfl, ?_⟩
        and_intros
        all_goals first | omega | assumption | rfl | exact ⟨by rw [new_next]; omega, hx2⟩ | (rw [hr, hdrop]; simp only [allK, hf1, Bool.true_and]) | simp
      | false =>
        simp -implicitDefEqProofs only [go_sem, Nat.reduceEqDiff, Nat.reduceAdd, Nat.reduceLeDiff, ↓reduceIte, reduceCtorEq, Int.reduceBEq, Int.reduceBNe, Int.reduceLT, Int.reduceLE, Int.reduceGT, Int.reduceGE, Int.reduceNeg, Int.reduceAdd, Int.reduceSub, Nat.reduceMul, Nat.reduceLT, Int.reduceToNat]
        refine ⟨?_, hE2⟩
        rw [hres, hr, hdrop]; simp only [allK, hf1, Bool.false_and]
    · have hir : i = ks.length := by omega
      have hltI : ¬ (i : Int) < (ks.length : Int) := by omega
      simp -implicitDefEqProofs only [go_sem, Nat.reduceEqDiff, Nat.reduceAdd, Nat.reduceLeDiff, ↓reduceIte, reduceCtorEq, Int.reduceBEq, Int.reduceBNe, Int.reduceLT, Int.reduceLE, Int.reduceGT, Int.reduceGE, Int.reduceNeg, Int.reduceAdd, Int.reduceSub, Nat.reduceMul, Nat.reduceLT, Int.reduceToNat, t3, t6, hltI]
      refine ⟨?_, hE2⟩
      rw [hres, hr, hir, List.drop_length]
      rfl
  by_cases e2 : f = 2
  · subst e2
    have hform : formF r (.mk 2 n hid s lv ks) = (((lv.length : Int) == 1) && lv.all r) := by rw [hform]; rfl
    cases hl : ((lv.length : Int) == 1) with
    | false =>
      simp -implicitDefEqProofs only [go_sem, Nat.reduceEqDiff, Nat.reduceAdd, Nat.reduceLeDiff, ↓reduceIte, reduceCtorEq, Int.reduceBEq, Int.reduceBNe, Int.reduceLT, Int.reduceLE, Int.reduceGT, Int.reduceGE, Int.reduceNeg, Int.reduceAdd, Int.reduceSub, Nat.reduceMul, Nat.reduceLT, Int.reduceToNat, w1, w2, h0, hkb, hl]
      exact ⟨by simp only [allF, hform, hl, Bool.false_and], hE _⟩
    | true =>
    simp -implicitDefEqProofs only [go_sem, Nat.reduceEqDiff, Nat.reduceAdd, Nat.reduceLeDiff, ↓reduceIte, reduceCtorEq, Int.reduceBEq, Int.reduceBNe, Int.reduceLT, Int.reduceLE, Int.reduceGT, Int.reduceGE, Int.reduceNeg, Int.reduceAdd, Int.reduceSub, Nat.reduceMul, Nat.reduceLT, Int.reduceToNat, w1, w2, h0, hkb, hl]
    refine swp_loop (fun k st => ∃ (i : Nat), k = lv.length - i ∧ i ≤ lv.length ∧ st.tm 1 = .ptr H.next 0 ∧ st.tm 3 = aint ks.length ∧ st.tm 4 = aint i ∧ Ext (H.new (.cells [aint 2, aint n, abl hid, .v (.string s), lx, kx])) st.heap ∧ lv.all r = (lv.drop i).all r) (k := lv.length) ⟨0, ?_⟩ ?_
    · exact ⟨by omega, by omega, rfl, rfl, rfl, ⟨Nat.le_refl _, fun _ _ => rfl⟩, by simp⟩
    rintro k ⟨tm, H2⟩ ⟨i, rfl, hi, t1, t3, t4, hxx, hr⟩
    obtain ⟨hx1, hx2⟩ := hxx
    simp only at t1 t3 t4 hx1 hx2
    rw [new_next] at hx1
    have hb : H2.get H.next = some (.cells [aint 2, aint n, abl hid, .v (.string s), lx, kx]) := by
      rw [hx2 H.next (by rw [new_next]; omega), new_get, if_pos rfl]
    have hE2 : Ext H H2 := ⟨by omega, fun b hb' => by rw [hx2 b (by rw [new_next]; omega), new_get, if_neg (by omega)]⟩
    by_cases hlt : i < lv.length
    · obtain ⟨vx, vs, hle, hld, hv1, hv2⟩ := hl2.at (List.getElem?_eq_getElem hlt)
      have hix := hl1.aix 2 hlt
      have hdrop : lv.drop i = lv[i] :: lv.drop (i + 1) := List.drop_eq_getElem_cons hlt
      have hltI : (i : Int) < (lv.length : Int) := by omega
      have w3 : IntKind.i64.wrap ((i : Int) + 1) = (i : Int) + 1 := i64_ok _ (by omega)
      simp -implicitDefEqProofs only [go_sem, Nat.reduceEqDiff, Nat.reduceAdd, Nat.reduceLeDiff, ↓reduceIte, reduceCtorEq, Int.reduceBEq, Int.reduceBNe, Int.reduceLT, Int.reduceLE, Int.reduceGT, Int.reduceGE, Int.reduceNeg, Int.reduceAdd, Int.reduceSub, Nat.reduceMul, Nat.reduceLT, Int.reduceToNat, t1, t3, t4, hb, w2, hltI, hix, hle, hld]
      refine i_callA (fs := []) (cs := []) (fid := 132) ?_ ?_ (hcan lv[i] (List.getElem_mem hlt) vx vs _ hv1 hv2) ?_
      · rfl
      · simp -implicitDefEqProofs only [go_sem, Nat.reduceEqDiff, Nat.reduceAdd, Nat.reduceLeDiff, ↓reduceIte, reduceCtorEq, Int.reduceBEq, Int.reduceBNe, Int.reduceLT, Int.reduceLE, Int.reduceGT, Int.reduceGE, Int.reduceNeg, Int.reduceAdd, Int.reduceSub, Nat.reduceMul, Nat.reduceLT, Int.reduceToNat]
      rintro x H3 ⟨rfl, rfl⟩
      cases hf1 : r lv[i] with
      | true =>
        simp -implicitDefEqProofs only [go_sem, Nat.reduceEqDiff, Nat.reduceAdd, Nat.reduceLeDiff, ↓reduceIte, reduceCtorEq, Int.reduceBEq, Int.reduceBNe, Int.reduceLT, Int.reduceLE, Int.reduceGT, Int.reduceGE, Int.reduceNeg, Int.reduceAdd, Int.reduceSub, Nat.reduceMul, Nat.reduceLT, Int.reduceToNat, t4, w3]
        refine ⟨lv.length - (i + 1), by omega, i + 1, rfl, ?_⟩
        and_intros
        all_goals first | omega | assumption | rfl | exact ⟨by rw [new_next]; omega, hx2⟩ | (rw [hr, hdrop, List.all_cons, hf1, Bool.true_and]) | simp
      | false =>
        simp -implicitDefEqProofs only [go_sem, Nat.reduceEqDiff, Nat.reduceAdd, Nat.reduceLeDiff, ↓reduceIte, reduceCtorEq, Int.reduceBEq, Int.reduceBNe, Int.reduceLT, Int.reduceLE, Int.reduceGT, Int.reduceGE, Int.reduceNeg, Int.reduceAdd, Int.reduceSub, Nat.reduceMul, Nat.reduceLT, Int.reduceToNat]
        refine ⟨?_, hE2⟩
        have hall0 : lv.all r = false := by rw [hr, hdrop, List.all_cons, hf1]; rfl
        simp only [allF, hform, hall0]
        simp
    · have hir : i = lv.length := by omega
      have hltI : ¬ (i : Int) < (lv.length : Int) := by omega
      have hall1 : lv.all r = true := by rw [hr, hir, List.drop_length]; rfl
      have hres : allF (formF r) (.mk 2 n hid s lv ks) = allK (formF r) ks := by simp only [allF, hform, hall1]; simp only [hl, Bool.true_and]
      simp -implicitDefEqProofs only [go_sem, Nat.reduceEqDiff, Nat.reduceAdd, Nat.reduceLeDiff, ↓reduceIte, reduceCtorEq, Int.reduceBEq, Int.reduceBNe, Int.reduceLT, Int.reduceLE, Int.reduceGT, Int.reduceGE, Int.reduceNeg, Int.reduceAdd, Int.reduceSub, Nat.reduceMul, Nat.reduceLT, Int.reduceToNat, t1, t3, t4, hb, w2, hltI]
      refine swp_loop (fun k st => ∃ (i : Nat), k = ks.length - i ∧ i ≤ ks.length ∧ st.tm 1 = .ptr H.next 0 ∧ st.tm 3 = aint ks.length ∧ st.tm 6 = aint i ∧ Ext (H.new (.cells [aint 2, aint n, abl hid, .v (.string s), lx, kx])) st.heap ∧ allK (formF r) ks = allK (formF r) (ks.drop i)) (k := ks.length) ⟨0, ?_⟩ ?_
      · exact ⟨by omega, by omega, t1, t3, rfl, ⟨by rw [new_next]; omega, hx2⟩, by simp⟩
      rintro k ⟨tm, H2⟩ ⟨i, rfl, hi, t1, t3, t6, ⟨hx1, hx2⟩, hr⟩
      simp only at t1 t3 t6 hx1 hx2
      rw [new_next] at hx1
      have hb : H2.get H.next = some (.cells [aint 2, aint n, abl hid, .v (.string s), lx, kx]) := by
        rw [hx2 H.next (by rw [new_next]; omega), new_get, if_pos rfl]
      have hE2 : Ext H H2 := ⟨by omega, fun b hb' => by rw [hx2 b (by rw [new_next]; omega), new_get, if_neg (by omega)]⟩
      by_cases hlt : i < ks.length
      · obtain ⟨kc, hkc, hle, hld⟩ := hk2.load (List.getElem?_eq_getElem hlt)
        have hix := hk1.aix 6 hlt
        have hdrop : ks.drop i = ks[i] :: ks.drop (i + 1) := List.drop_eq_getElem_cons hlt
        have hltI : (i : Int) < (ks.length : Int) := by omega
        have w3 : IntKind.i64.wrap ((i : Int) + 1) = (i : Int) + 1 := i64_ok _ (by omega)
        simp -implicitDefEqProofs only [go_sem, Nat.reduceEqDiff, Nat.reduceAdd, Nat.reduceLeDiff, ↓reduceIte, reduceCtorEq, Int.reduceBEq, Int.reduceBNe, Int.reduceLT, Int.reduceLE, Int.reduceGT, Int.reduceGE, Int.reduceNeg, Int.reduceAdd, Int.reduceSub, Nat.reduceMul, Nat.reduceLT, Int.reduceToNat, t1, t3, t6, hb, hltI, hix, hle, hld]
        refine i_callA (fs := []) (cs := []) (fid := 87) ?_ ?_ (ih ks[i] (List.getElem_mem hlt) (hallK.mem _ (List.getElem_mem hlt)) _ hkc _) ?_
        · rfl
        · simp -implicitDefEqProofs only [go_sem, Nat.reduceEqDiff, Nat.reduceAdd, Nat.reduceLeDiff, ↓reduceIte, reduceCtorEq, Int.reduceBEq, Int.reduceBNe, Int.reduceLT, Int.reduceLE, Int.reduceGT, Int.reduceGE, Int.reduceNeg, Int.reduceAdd, Int.reduceSub, Nat.reduceMul, Nat.reduceLT, Int.reduceToNat]
        rintro x H3 ⟨rfl, rfl⟩
        cases hf1 : allF (formF r) ks[i] with
        | true =>
          simp -implicitDefEqProofs only [go_sem, Nat.reduceEqDiff, Nat.reduceAdd, Nat.reduceLeDiff, ↓reduceIte, reduceCtorEq, Int.reduceBEq, Int.reduceBNe, Int.reduceLT, Int.reduceLE, Int.reduceGT, Int.reduceGE, Int.reduceNeg, Int.reduceAdd, Int.reduceSub, Nat.reduceMul, Nat.reduceLT, Int.reduceToNat, t6, w3]
          refine ⟨ks.length - (i + 1), by omega, i + 1, rfl, ?_⟩
          and_intros
          all_goals first | omega | assumption | rfl | exact ⟨by rw [new_next]; omega, hx2⟩ | (rw [hr, hdrop]; simp only [allK, hf1, Bool.true_and]) | simp
        | false =>
          simp -implicitDefEqProofs only [go_sem, Nat.reduceEqDiff, Nat.reduceAdd, Nat.reduceLeDiff, ↓reduceIte, reduceCtorEq, Int.reduceBEq, Int.reduceBNe, Int.reduceLT, Int.reduceLE, Int.reduceGT, Int.reduceGE, Int.reduceNeg, Int.reduceAdd, Int.reduceSub, Nat.reduceMul, Nat.reduceLT, Int.reduceToNat]
          refine ⟨?_, hE2⟩
          rw [hres, hr, hdrop]; simp only [allK, hf1, Bool.false_and]
      · have hir : i = ks.length := by omega
        have hltI : ¬ (i : Int) < (ks.length : Int) := by omega
        simp -implicitDefEqProofs only [go_sem, Nat.reduceEqDiff, Nat.reduceAdd, Nat.reduceLeDiff, ↓reduceIte, reduceCtorEq, Int.reduceBEq, Int.reduceBNe, Int.reduceLT, Int.reduceLE, Int.reduceGT, Int.reduceGE, Int.reduceNeg, Int.reduceAdd, Int.reduceSub, Nat.reduceMul, Nat.reduceLT, Int.reduceToNat, t3, t6, hltI]
        refine ⟨?_, hE2⟩
        rw [hres, hr, hir, List.drop_length]
        rfl
  by_cases e10 : f = 10
  · subst e10
    have hform : formF r (.mk 10 n hid s lv ks) = (!(s.data.toList == []) && decide ((s.size : Int) ≤ 60) && lv.all r) := by rw [hform]; rfl
    cases hs : (s.data.toList == []) with
    | true =>
      simp -implicitDefEqProofs only [go_sem, Nat.reduceEqDiff, Nat.reduceAdd, Nat.reduceLeDiff, ↓reduceIte, reduceCtorEq, Int.reduceBEq, Int.reduceBNe, Int.reduceLT, Int.reduceLE, Int.reduceGT, Int.reduceGE, Int.reduceNeg, Int.reduceAdd, Int.reduceSub, Nat.reduceMul, Nat.reduceLT, Int.reduceToNat, sbin, w1, w2, h0, hkb, hs]
      exact ⟨by simp only [allF, hform, hs, Bool.not_true, Bool.false_and], hE _⟩
    | false =>
    by_cases hz : (s.size : Int) > 60
    · have hz' : ¬ (s.size : Int) ≤ 60 := by omega
      simp -implicitDefEqProofs only [go_sem, Nat.reduceEqDiff, Nat.reduceAdd, Nat.reduceLeDiff, ↓reduceIte, reduceCtorEq, Int.reduceBEq, Int.reduceBNe, Int.reduceLT, Int.reduceLE, Int.reduceGT, Int.reduceGE, Int.reduceNeg, Int.reduceAdd, Int.reduceSub, Nat.reduceMul, Nat.reduceLT, Int.reduceToNat, sbin, w1, w2, h0, hkb, hs, hz]
      exact ⟨by simp only [allF, hform, hs, hz', decide_false, Bool.and_false, Bool.false_and], hE _⟩
    have hz' : (s.size : Int) ≤ 60 := by omega
    simp -implicitDefEqProofs only [go_sem, Nat.reduceEqDiff, Nat.reduceAdd, Nat.reduceLeDiff, ↓reduceIte, reduceCtorEq, Int.reduceBEq, Int.reduceBNe, Int.reduceLT, Int.reduceLE, Int.reduceGT, Int.reduceGE, Int.reduceNeg, Int.reduceAdd, Int.reduceSub, Nat.reduceMul, Nat.reduceLT, Int.reduceToNat, sbin, w1, w2, h0, hkb, hs, hz]
    refine swp_loop (fun k st => ∃ (i : Nat), k = lv.length - i ∧ i ≤ lv.length ∧ st.tm 1 = .ptr H.next 0 ∧ st.tm 3 = aint ks.length ∧ st.tm 4 = aint i ∧ Ext (H.new (.cells [aint 10, aint n, abl hid, .v (.string s), lx, kx])) st.heap ∧ lv.all r = (lv.drop i).all r) (k := lv.length) ⟨0, ?_⟩ ?_
    · exact ⟨by omega, by omega, rfl, rfl, rfl, ⟨Nat.le_refl _, fun _ _ => rfl⟩, by simp⟩
    rintro k ⟨tm, H2⟩ ⟨i, rfl, hi, t1, t3, t4, hxx, hr⟩
    obtain ⟨hx1, hx2⟩ := hxx
    simp only at t1 t3 t4 hx1 hx2
    rw [new_next] at hx1
    have hb : H2.get H.next = some (.cells [aint 10, aint n, abl hid, .v (.string s), lx, kx]) := by
      rw [hx2 H.next (by rw [new_next]; omega), new_get, if_pos rfl]
    have hE2 : Ext H H2 := ⟨by omega, fun b hb' => by rw [hx2 b (by rw [new_next]; omega), new_get, if_neg (by omega)]⟩
    by_cases hlt : i < lv.length
    · obtain ⟨vx, vs, hle, hld, hv1, hv2⟩ := hl2.at (List.getElem?_eq_getElem hlt)
      have hix := hl1.aix 2 hlt
      have hdrop : lv.drop i = lv[i] :: lv.drop (i + 1) := List.drop_eq_getElem_cons hlt
      have hltI : (i : Int) < (lv.length : Int) := by omega
      have w3 : IntKind.i64.wrap ((i : Int) + 1) = (i : Int) + 1 := i64_ok _ (by omega)
      simp -implicitDefEqProofs only [go_sem, Nat.reduceEqDiff, Nat.reduceAdd, Nat.reduceLeDiff, ↓reduceIte, reduceCtorEq, Int.reduceBEq, Int.reduceBNe, Int.reduceLT, Int.reduceLE, Int.reduceGT, Int.reduceGE, Int.reduceNeg, Int.reduceAdd, Int.reduceSub, Nat.reduceMul, Nat.reduceLT, Int.reduceToNat, t1, t3, t4, hb, w2, hltI, hix, hle, hld]
      refine i_callA (fs := []) (cs := []) (fid := 132) ?_ ?_ (hcan lv[i] (List.getElem_mem hlt) vx vs _ hv1 hv2) ?_
      · rfl
      · simp -implicitDefEqProofs only [go_sem, Nat.reduceEqDiff, Nat.reduceAdd, Nat.reduceLeDiff, ↓reduceIte, reduceCtorEq, Int.reduceBEq, Int.reduceBNe, Int.reduceLT, Int.reduceLE, Int.reduceGT, Int.reduceGE, Int.reduceNeg, Int.reduceAdd, Int.reduceSub, Nat.reduceMul, Nat.reduceLT, Int.reduceToNat]
      rintro x H3 ⟨rfl, rfl⟩
      cases hf1 : r lv[i] with
      | true =>
        simp -implicitDefEqProofs only [go_sem, Nat.reduceEqDiff, Nat.reduceAdd, Nat.reduceLeDiff, ↓reduceIte, reduceCtorEq, Int.reduceBEq, Int.reduceBNe, Int.reduceLT, Int.reduceLE, Int.reduceGT, Int.reduceGE, Int.reduceNeg, Int.reduceAdd, Int.reduceSub, Nat.reduceMul, Nat.reduceLT, Int.reduceToNat, t4, w3]
        refine ⟨lv.length - (i + 1), by omega, i + 1, rfl, ?_⟩
        and_intros
        all_goals first | omega | assumption | rfl | exact ⟨by rw [new_next]; omega, hx2⟩ | (rw [hr, hdrop, List.all_cons, hf1, Bool.true_and]) | simp
      | false =>
        simp -implicitDefEqProofs only [go_sem, Nat.reduceEqDiff, Nat.reduceAdd, Nat.reduceLeDiff, ↓reduceIte, reduceCtorEq, Int.reduceBEq, Int.reduceBNe, Int.reduceLT, Int.reduceLE, Int.reduceGT, Int.reduceGE, Int.reduceNeg, Int.reduceAdd, Int.reduceSub, Nat.reduceMul, Nat.reduceLT, Int.reduceToNat]
        refine ⟨?_, hE2⟩
        have hall0 : lv.all r = false := by rw [hr, hdrop, List.all_cons, hf1]; rfl
        simp only [allF, hform, hall0]
        simp
    · have hir : i = lv.length := by omega
      have hltI : ¬ (i : Int) < (lv.length : Int) := by omega
      have hall1 : lv.all r = true := by rw [hr, hir, List.drop_length]; rfl
      have hres : allF (formF r) (.mk 10 n hid s lv ks) = allK (formF r) ks := by simp only [allF, hform, hall1]; simp only [hs, hz', decide_true, Bool.not_false, Bool.true_and]
      simp -implicitDefEqProofs only [go_sem, Nat.reduceEqDiff, Nat.reduceAdd, Nat.reduceLeDiff, ↓reduceIte, reduceCtorEq, Int.reduceBEq, Int.reduceBNe, Int.reduceLT, Int.reduceLE, Int.reduceGT, Int.reduceGE, Int.reduceNeg, Int.reduceAdd, Int.reduceSub, Nat.reduceMul, Nat.reduceLT, Int.reduceToNat, t1, t3, t4, hb, w2, hltI]
      refine swp_loop (fun k st => ∃ (i : Nat), k = ks.length - i ∧ i ≤ ks.length ∧ st.tm 1 = .ptr H.next 0 ∧ st.tm 3 = aint ks.length ∧ st.tm 6 = aint i ∧ Ext (H.new (.cells [aint 10, aint n, abl hid, .v (.string s), lx, kx])) st.heap ∧ allK (formF r) ks = allK (formF r) (ks.drop i)) (k := ks.length) ⟨0, ?_⟩ ?_
      · exact ⟨by omega, by omega, t1, t3, rfl, ⟨by rw [new_next]; omega, hx2⟩, by simp⟩
      rintro k ⟨tm, H2⟩ ⟨i, rfl, hi, t1, t3, t6, ⟨hx1, hx2⟩, hr⟩
      simp only at t1 t3 t6 hx1 hx2
      rw [new_next] at hx1
      have hb : H2.get H.next = some (.cells [aint 10, aint n, abl hid, .v (.string s), lx, kx]) := by
        rw [hx2 H.next (by rw [new_next]; omega), new_get, if_pos rfl]
      have hE2 : Ext H H2 := ⟨by omega, fun b hb' => by rw [hx2 b (by rw [new_next]; omega), new_get, if_neg (by omega)]⟩
      by_cases hlt : i < ks.length
      · obtain ⟨kc, hkc, hle, hld⟩ := hk2.load (List.getElem?_eq_getElem hlt)
        have hix := hk1.aix 6 hlt
        have hdrop : ks.drop i = ks[i] :: ks.drop (i + 1) := List.drop_eq_getElem_cons hlt
        have hltI : (i : Int) < (ks.length : Int) := by omega
        have w3 : IntKind.i64.wrap ((i : Int) + 1) = (i : Int) + 1 := i64_ok _ (by omega)
        simp -implicitDefEqProofs only [go_sem, Nat.reduceEqDiff, Nat.reduceAdd, Nat.reduceLeDiff, ↓reduceIte, reduceCtorEq, Int.reduceBEq, Int.reduceBNe, Int.reduceLT, Int.reduceLE, Int.reduceGT, Int.reduceGE, Int.reduceNeg, Int.reduceAdd, Int.reduceSub, Nat.reduceMul, Nat.reduceLT, Int.reduceToNat, t1, t3, t6, hb, hltI, hix, hle, hld]
        refine i_callA (fs := []) (cs := []) (fid := 87) ?_ ?_ (ih ks[i] (List.getElem_mem hlt) (hallK.mem _ (List.getElem_mem hlt)) _ hkc _) ?_
        · rfl
        · simp -implicitDefEqProofs only [go_sem, Nat.reduceEqDiff, Nat.reduceAdd, Nat.reduceLeDiff, ↓reduceIte, reduceCtorEq, Int.reduceBEq, Int.reduceBNe, Int.reduceLT, Int.reduceLE, Int.reduceGT, Int.reduceGE, Int.reduceNeg, Int.reduceAdd, Int.reduceSub, Nat.reduceMul, Nat.reduceLT, Int.reduceToNat]
        rintro x H3 ⟨rfl, rfl⟩
        cases hf1 : allF (formF r) ks[i] with
        | true =>
          simp -implicitDefEqProofs only [go_sem, Nat.reduceEqDiff, Nat.reduceAdd, Nat.reduceLeDiff, ↓reduceIte, reduceCtorEq, Int.reduceBEq, Int.reduceBNe, Int.reduceLT, Int.reduceLE, Int.reduceGT, Int.reduceGE, Int.reduceNeg, Int.reduceAdd, Int.reduceSub, Nat.reduceMul, Nat.reduceLT, Int.reduceToNat, t6, w3]
          refine ⟨ks.length - (i + 1), by omega, i + 1, rfl, ?_⟩
          and_intros
          all_goals first | omega | assumption | rfl | exact ⟨by rw [new_next]; omega, hx2⟩ | (rw [hr, hdrop]; simp only [allK, hf1, Bool.true_and]) | simp
        | false =>
          simp -implicitDefEqProofs only [go_sem, Nat.reduceEqDiff, Nat.reduceAdd, Nat.reduceLeDiff, ↓reduceIte, reduceCtorEq, Int.reduceBEq, Int.reduceBNe, Int.reduceLT, Int.reduceLE, Int.reduceGT, Int.reduceGE, Int.reduceNeg, Int.reduceAdd, Int.reduceSub, Nat.reduceMul, Nat.reduceLT, Int.reduceToNat]
          refine ⟨?_, hE2⟩
          rw [hres, hr, hdrop]; simp only [allK, hf1, Bool.false_and]
      · have hir : i = ks.length := by omega
        have hltI : ¬ (i : Int) < (ks.length : Int) := by omega
        simp -implicitDefEqProofs only [go_sem, Nat.reduceEqDiff, Nat.reduceAdd, Nat.reduceLeDiff, ↓reduceIte, reduceCtorEq, Int.reduceBEq, Int.reduceBNe, Int.reduceLT, Int.reduceLE, Int.reduceGT, Int.reduceGE, Int.reduceNeg, Int.reduceAdd, Int.reduceSub, Nat.reduceMul, Nat.reduceLT, Int.reduceToNat, t3, t6, hltI]
        refine ⟨?_, hE2⟩
        rw [hres, hr, hir, List.drop_length]
        rfl
  have hform : formF r (.mk f n hid s lv ks) = true := by rw [hform]; simp [e1, e2, e7, e10, e11]
  have hres : allF (formF r) (.mk f n hid s lv ks) = allK (formF r) ks := by simp only [allF, hform, Bool.true_and]
  simp -implicitDefEqProofs only [go_sem, Nat.reduceEqDiff, Nat.reduceAdd, Nat.reduceLeDiff, ↓reduceIte, reduceCtorEq, Int.reduceBEq, Int.reduceBNe, Int.reduceLT, Int.reduceLE, Int.reduceGT, Int.reduceGE, Int.reduceNeg, Int.reduceAdd, Int.reduceSub, Nat.reduceMul, Nat.reduceLT, Int.reduceToNat, w1, w2, h0, hkb, bne_of e1, bne_of e2, bne_of e7, bne_of e10, bne_of e11]
  refine swp_loop (fun k st => ∃ (i : Nat), k = ks.length - i ∧ i ≤ ks.length ∧ st.tm 1 = .ptr H.next 0 ∧ st.tm 3 = aint ks.length ∧ st.tm 6 = aint i ∧ Ext (H.new (.cells [aint f, aint n, abl hid, .v (.string s), lx, kx])) st.heap ∧ allK (formF r) ks = allK (formF r) (ks.drop i)) (k := ks.length) ⟨0, ?_⟩ ?_
  · exact ⟨by omega, by omega, rfl, rfl, rfl, ⟨Nat.le_refl _, fun _ _ => rfl⟩, by simp⟩
  rintro k ⟨tm, H2⟩ ⟨i, rfl, hi, t1, t3, t6, ⟨hx1, hx2⟩, hr⟩
  simp only at t1 t3 t6 hx1 hx2
  rw [new_next] at hx1
  have hb : H2.get H.next = some (.cells [aint f, aint n, abl hid, .v (.string s), lx, kx]) := by
    rw [hx2 H.next (by rw [new_next]; omega), new_get, if_pos rfl]
  have hE2 : Ext H H2 := ⟨by omega, fun b hb' => by rw [hx2 b (by rw [new_next]; omega), new_get, if_neg (by omega)]⟩
  by_cases hlt : i < ks.length
  · obtain ⟨kc, hkc, hle, hld⟩ := hk2.load (List.getElem?_eq_getElem hlt)
    have hix := hk1.aix 6 hlt
    have hdrop : ks.drop i = ks[i] :: ks.drop (i + 1) := List.drop_eq_getElem_cons hlt
    have hltI : (i : Int) < (ks.length : Int) := by omega
    have w3 : IntKind.i64.wrap ((i : Int) + 1) = (i : Int) + 1 := i64_ok _ (by omega)
    simp -implicitDefEqProofs only [go_sem, Nat.reduceEqDiff, Nat.reduceAdd, Nat.reduceLeDiff, ↓reduceIte, reduceCtorEq, Int.reduceBEq, Int.reduceBNe, Int.reduceLT, Int.reduceLE, Int.reduceGT, Int.reduceGE, Int.reduceNeg, Int.reduceAdd, Int.reduceSub, Nat.reduceMul, Nat.reduceLT, Int.reduceToNat, t1, t3, t6, hb, hltI, hix, hle, hld]
    refine i_callA (fs := []) (cs := []) (fid := 87) ?_ ?_ (ih ks[i] (List.getElem_mem hlt) (hallK.mem _ (List.getElem_mem hlt)) _ hkc _) ?_
    · rfl
    · simp -implicitDefEqProofs only [go_sem, Nat.reduceEqDiff, Nat.reduceAdd, Nat.reduceLeDiff, ↓reduceIte, reduceCtorEq, Int.reduceBEq, Int.reduceBNe, Int.reduceLT, Int.reduceLE, Int.reduceGT, Int.reduceGE, Int.reduceNeg, Int.reduceAdd, Int.reduceSub, Nat.reduceMul, Nat.reduceLT, Int.reduceToNat]
    rintro x H3 ⟨rfl, rfl⟩
    cases hf1 : allF (formF r) ks[i] with
    | true =>
      simp -implicitDefEqProofs only [go_sem, Nat.reduceEqDiff, Nat.reduceAdd, Nat.reduceLeDiff, ↓reduceIte, reduceCtorEq, Int.reduceBEq, Int.reduceBNe, Int.reduceLT, Int.reduceLE, Int.reduceGT, Int.reduceGE, Int.reduceNeg, Int.reduceAdd, Int.reduceSub, Nat.reduceMul, Nat.reduceLT, Int.reduceToNat, t6, w3]
      refine ⟨ks.length - (i + 1), by omega, i + 1, rfl, ?_⟩
      and_intros
      all_goals first | omega | assumption | rfl | exact ⟨by rw [new_next]; omega, hx2⟩ | (rw [hr, hdrop]; simp only [allK, hf1, Bool.true_and]) | simp
    | false =>
      simp -implicitDefEqProofs only [go_sem, Nat.reduceEqDiff, Nat.reduceAdd, Nat.reduceLeDiff, ↓reduceIte, reduceCtorEq, Int.reduceBEq, Int.reduceBNe, Int.reduceLT, Int.reduceLE, Int.reduceGT, Int.reduceGE, Int.reduceNeg, Int.reduceAdd, Int.reduceSub, Nat.reduceMul, Nat.reduceLT, Int.reduceToNat]
      refine ⟨?_, hE2⟩
      rw [hres, hr, hdrop]; simp only [allK, hf1, Bool.false_and]
  · have hir : i = ks.length := by omega
    have hltI : ¬ (i : Int) < (ks.length : Int) := by omega
    simp -implicitDefEqProofs only [go_sem, Nat.reduceEqDiff, Nat.reduceAdd, Nat.reduceLeDiff, ↓reduceIte, reduceCtorEq, Int.reduceBEq, Int.reduceBNe, Int.reduceLT, Int.reduceLE, Int.reduceGT, Int.reduceGE, Int.reduceNeg, Int.reduceAdd, Int.reduceSub, Nat.reduceMul, Nat.reduceLT, Int.reduceToNat, t3, t6, hltI]
    refine ⟨?_, hE2⟩
    rw [hres, hr, hir, List.drop_length]
    rfl

end Go.Proofs.Ytooaiddfokbffaa.E

/- The reference's check and size are the code's. Conditions: none. -/
set_option linter.unusedVariables false
set_option linter.unusedSimpArgs false
namespace Go.Proofs.Ytooaiddfokbffaa.E
open Go Go.Proofs
attribute [local go_sem] s_seq s_ops s_draw s_block s_skip s_ret s_exit i_nil i_cons i_run i_runG s_condQ c_true c_false aop ev_t ev_c updO_at updO_no upd_at t_normal t_ret t_exit b_normal b_ret b_exit a_some ac_v ac_agg ac_ptr ac_slc ac_ro ac_rop ac_fn new_next set_next argTm_zero argTm_succ argTm_nil ab_bool ab_uv beq_self_eq_true Option.some_beq_some Bool.not_not beq_iff_eq decide_true decide_false Bool.not_true Bool.not_false afld aload astore apack alen_str alen_ro alen_slc alen_nil new_get set_get ite_true ite_false Option.map_some Option.bind_some ibin isShift Nat.add_zero Nat.zero_add List.length_cons List.length_nil List.drop_zero List.drop_succ_cons List.take_succ_cons List.take_zero if_true if_false setL List.set_cons_zero List.set_cons_succ List.all_cons List.all_nil one_int one_bool one_str one_nil one_ptr one_slc one_ro one_rop one_fn Bool.and_self Bool.and_true true_and and_true and_self Bool.false_eq_true post_ret post_normal resAll resOne packR Option.some.injEq exists_eq_left' List.map_cons List.map_nil List.nil_append List.append_nil List.cons_append d_nil d_cons k_nil k_cons g_op g_same g_new avBlock forall_eq' List.getElem?_cons_succ List.getElem?_cons_zero List.getElem?_nil okind gOk bne false_imp_iff forall_const imp_self implies_true true_imp_iff i_callG

def check2F (r : Lv → Bool) (t : Tm) : Int := if (partT 20000 500 t).1 > 20000 ∨ (partT 20000 500 t).2 > 500 then 2 else if allF (formF r) t = false then 10 else 0
def size2F (r : Lv → Bool) (t : Tm) : Int := if check2F r t = 0 then (partT 20000 500 t).1 else 0

set_option maxRecDepth 100000 in
theorem check2_ok (r : Lv → Bool) (t : Tm) (hall : Tm.All (Fine2 r) t) (cells : List AV) (hT : TmR t cells) (H : AHeap) :
    SCall Try.prog 29 [.agg cells] H fun x H' => x = aint (check2F r t) ∧ H' = H := by
  refine SCall.val (SCall.intro mixed cf29 ?_)
  have hT' := hT
  obtain ⟨lx, kx, ls, cs, rfl, hl1, hl2, hk1, hk2⟩ := hT.six
  simp -implicitDefEqProofs only [c29, go_sem, Nat.reduceEqDiff, Nat.reduceAdd, Nat.reduceLeDiff, ↓reduceIte, reduceCtorEq, Int.reduceBEq, Int.reduceBNe, Int.reduceLT, Int.reduceLE, Int.reduceGT, Int.reduceGE, Int.reduceNeg, Int.reduceAdd, Int.reduceSub, Nat.reduceMul, Nat.reduceLT, Int.reduceToNat, hk1.one, hl1.one, hk1.cells, hl1.cells]
  refine i_callA (fs := []) (cs := []) (fid := 85) ?_ ?_ (part_ok t _ hT' 20000 500 (by omega) (by omega) _) ?_
  · rfl
  · simp -implicitDefEqProofs only [go_sem, Nat.reduceEqDiff, Nat.reduceAdd, Nat.reduceLeDiff, ↓reduceIte, reduceCtorEq, Int.reduceBEq, Int.reduceBNe, Int.reduceLT, Int.reduceLE, Int.reduceGT, Int.reduceGE, Int.reduceNeg, Int.reduceAdd, Int.reduceSub, Nat.reduceMul, Nat.reduceLT, Int.reduceToNat]
  rintro x H3 ⟨rfl, rfl⟩
  by_cases g1 : (partT 20000 500 t).1 > 20000
  · simp -implicitDefEqProofs only [go_sem, Nat.reduceEqDiff, Nat.reduceAdd, Nat.reduceLeDiff, ↓reduceIte, reduceCtorEq, Int.reduceBEq, Int.reduceBNe, Int.reduceLT, Int.reduceLE, Int.reduceGT, Int.reduceGE, Int.reduceNeg, Int.reduceAdd, Int.reduceSub, Nat.reduceMul, Nat.reduceLT, Int.reduceToNat, g1]
    exact ⟨by simp only [check2F, g1, true_or, if_true], ext_new H _⟩
  by_cases g2 : (partT 20000 500 t).2 > 500
  · simp -implicitDefEqProofs only [go_sem, Nat.reduceEqDiff, Nat.reduceAdd, Nat.reduceLeDiff, ↓reduceIte, reduceCtorEq, Int.reduceBEq, Int.reduceBNe, Int.reduceLT, Int.reduceLE, Int.reduceGT, Int.reduceGE, Int.reduceNeg, Int.reduceAdd, Int.reduceSub, Nat.reduceMul, Nat.reduceLT, Int.reduceToNat, g1, g2]
    exact ⟨by simp only [check2F, g2, or_true, if_true], ext_new H _⟩
  simp -implicitDefEqProofs only [go_sem, Nat.reduceEqDiff, Nat.reduceAdd, Nat.reduceLeDiff, ↓reduceIte, reduceCtorEq, Int.reduceBEq, Int.reduceBNe, Int.reduceLT, Int.reduceLE, Int.reduceGT, Int.reduceGE, Int.reduceNeg, Int.reduceAdd, Int.reduceSub, Nat.reduceMul, Nat.reduceLT, Int.reduceToNat, g1, g2]
  refine i_callA (fs := []) (cs := []) (fid := 87) ?_ ?_ (formed2_ok r t hall _ hT' _) ?_
  · rfl
  · simp -implicitDefEqProofs only [go_sem, Nat.reduceEqDiff, Nat.reduceAdd, Nat.reduceLeDiff, ↓reduceIte, reduceCtorEq, Int.reduceBEq, Int.reduceBNe, Int.reduceLT, Int.reduceLE, Int.reduceGT, Int.reduceGE, Int.reduceNeg, Int.reduceAdd, Int.reduceSub, Nat.reduceMul, Nat.reduceLT, Int.reduceToNat]
  rintro x H3 ⟨rfl, rfl⟩
  cases hf : allF (formF r) t with
  | false =>
    simp -implicitDefEqProofs only [go_sem, Nat.reduceEqDiff, Nat.reduceAdd, Nat.reduceLeDiff, ↓reduceIte, reduceCtorEq, Int.reduceBEq, Int.reduceBNe, Int.reduceLT, Int.reduceLE, Int.reduceGT, Int.reduceGE, Int.reduceNeg, Int.reduceAdd, Int.reduceSub, Nat.reduceMul, Nat.reduceLT, Int.reduceToNat]
    exact ⟨by simp only [check2F, g1, g2, hf, or_self, if_false, if_true], ext_new H _⟩
  | true =>
    simp -implicitDefEqProofs only [go_sem, Nat.reduceEqDiff, Nat.reduceAdd, Nat.reduceLeDiff, ↓reduceIte, reduceCtorEq, Int.reduceBEq, Int.reduceBNe, Int.reduceLT, Int.reduceLE, Int.reduceGT, Int.reduceGE, Int.reduceNeg, Int.reduceAdd, Int.reduceSub, Nat.reduceMul, Nat.reduceLT, Int.reduceToNat]
    exact ⟨by simp only [check2F, g1, g2, hf, or_self, if_false, Bool.true_eq_false], ext_new H _⟩

/-! ### The two counts are one -/
theorem fit_part : ∀ t, ∀ c high, 0 ≤ c → 0 ≤ high → ((fitT c high t).1 = true → (fitT c high t).2 = c + (partT (20000 - c) (501 - high) t).1 ∧ (partT (20000 - c) (501 - high) t).1 ≤ 20000 - c ∧ (partT (20000 - c) (501 - high) t).2 ≤ 501 - high) ∧
    ((fitT c high t).1 = false → partT (20000 - c) (501 - high) t = (1073741824, 1073741824)) := by
  refine Tm.rule fun f n hd s lv ks ih c high hc hh => ?_
  simp only [fitT, partT]
  by_cases h1 : c + 1 > 20000 ∨ high > 500
  · rw [if_pos h1, if_pos (by omega)]
    simp
  rw [if_neg h1, if_neg (by omega)]
  have key : ∀ (ks' : List Tm), (∀ k ∈ ks', k ∈ ks) → ∀ n h, 1 ≤ n → n ≤ 20000 - c → 0 ≤ h → h < 501 - high →
      ((fitK (c + n) (high + 1) ks').1 = true → (fitK (c + n) (high + 1) ks').2 = c + (partK (20000 - c) (501 - high) n h ks').1 ∧ (partK (20000 - c) (501 - high) n h ks').1 ≤ 20000 - c ∧ (partK (20000 - c) (501 - high) n h ks').2 ≤ 501 - high) ∧
      ((fitK (c + n) (high + 1) ks').1 = false → partK (20000 - c) (501 - high) n h ks' = (1073741824, 1073741824)) := by
    intro ks'
    induction ks' with
    | nil => intro _ n h k1 k2 k3 k4; simp only [fitK, partK]; simp; omega
    | cons k ks' ih' =>
      intro hm n h k1 k2 k3 k4
      obtain ⟨q1, q2⟩ := ih k (hm k (List.mem_cons_self ..)) (c + n) (high + 1) (by omega) (by omega)
      rw [show 20000 - (c + n) = 20000 - c - n by omega, show 501 - (high + 1) = 501 - high - 1 by omega] at q1 q2
      simp only [fitK, partK]
      obtain ⟨b1, b2, b3, b4⟩ := part_bound k (20000 - c - n) (501 - high - 1) (by omega) (by omega)
      cases hf : (fitT (c + n) (high + 1) k).1 with
      | true =>
        obtain ⟨q3, q4, q5⟩ := q1 hf
        generalize hp : partT (20000 - c - n) (501 - high - 1) k = p at *
        have hno : ¬ (n + p.1 > 20000 - c ∨ (if p.2 > h then p.2 else h) ≥ 501 - high) := by
          by_cases hc2 : p.2 > h
          · rw [if_pos hc2]; omega
          · rw [if_neg hc2]; omega
        rw [if_neg hno]
        simp only [if_true]
        rw [q3, show c + n + p.1 = c + (n + p.1) by omega]
        refine ih' (fun k hk => hm k (List.mem_cons_of_mem _ hk)) _ _ (by omega) (by omega) ?_ ?_
        · by_cases hc2 : p.2 > h
          · rw [if_pos hc2]; omega
          · rw [if_neg hc2]; omega
        · by_cases hc2 : p.2 > h
          · rw [if_pos hc2]; omega
          · rw [if_neg hc2]; omega
      | false =>
        rw [q2 hf]
        have hyes : n + (1073741824 : Int) > 20000 - c ∨ (if (1073741824 : Int) > h then 1073741824 else h) ≥ 501 - high := .inl (by omega)
        simp only
        rw [if_pos hyes]
        simp
  exact key ks (fun _ h => h) 1 0 (by omega) (by omega) (by omega) (by omega)

theorem check_same (r : Lv → Bool) (t : Tm) : check2F r t = checkF r t := by
  obtain ⟨h1, h2⟩ := fit_part t 0 1 (by omega) (by omega)
  rw [show (20000 : Int) - 0 = 20000 by omega, show (501 : Int) - 1 = 500 by omega] at h1 h2
  unfold check2F checkF
  cases hf : (fitT 0 1 t).1 with
  | true =>
    obtain ⟨_, k2, k3⟩ := h1 hf
    rw [if_neg (by omega)]
    simp
  | false =>
    rw [h2 hf]
    simp

end Go.Proofs.Ytooaiddfokbffaa.E

/- Terms in blocks of one's own. Conditions: none. -/
set_option linter.unusedVariables false
set_option linter.unusedSimpArgs false
namespace Go.Proofs.Ytooaiddfokbffaa.E
open Go Go.Proofs

/-- What is there stays. -/
def Sub (H H' : AHeap) : Prop := ∀ b o, H.get b = some o → H'.get b = some o
def Wf (H : AHeap) : Prop := ∀ b o, H.get b = some o → b < H.next

theorem Sub.refl (H : AHeap) : Sub H H := fun _ _ h => h
theorem Sub.trans {H H1 H2 : AHeap} (h : Sub H H1) (k : Sub H1 H2) : Sub H H2 := fun b o hb => k b o (h b o hb)
theorem Wf.new {H : AHeap} (h : Wf H) (o : AObj) : Wf (H.new o) := fun b q hb => by
  rw [new_get] at hb
  rw [new_next]
  split at hb
  · rename_i e; omega
  · have := h b q hb; omega
theorem Wf.set {H : AHeap} (h : Wf H) {b : Nat} (hb : b < H.next) (o : AObj) : Wf (H.set b o) := fun x q hx => by
  rw [set_get] at hx
  rw [set_next]
  split at hx
  · rename_i e; omega
  · exact h x q hx
theorem Sub.new {H : AHeap} (h : Wf H) (o : AObj) : Sub H (H.new o) := fun b q hb => by
  rw [new_get, if_neg (by have := h b q hb; omega)]
  exact hb
theorem Wf.empty : Wf AHeap.empty := fun b o h => by cases h

theorem Frz.mono {H H' : AHeap} (hs : Sub H H') {x y : AV} (h : Frz H x y) : Frz H' x y := by
  induction h with
  | v x => exact .v x
  | slc b off es len lo ex l cs g hb hg hz ih => exact .slc b off es len lo ex l cs g (hs b _ hb) hg ih
  | ptr b off l cs hb hn hz ih => exact .ptr b off l cs (hs b _ hb) hn ih
  | ro len lo ex l cs hn hz ih => exact .ro len lo ex l cs hn ih
  | fn f a b a' b' hn hn' h1 h2 ih1 ih2 => exact .fn f a b a' b' hn hn' ih1 ih2
  | agg l cs hn hz ih => exact .agg l cs hn ih

/-- Cells that are frozen, one by one. -/
def FrzL (H : AHeap) (xs ys : List AV) : Prop := ys.length = xs.length ∧ ∀ (i : Nat) (x y : AV), xs[i]? = some x → ys[i]? = some y → Frz H x y

theorem FrzL.mono {H H' : AHeap} (hs : Sub H H') {xs ys : List AV} (h : FrzL H xs ys) : FrzL H' xs ys := ⟨h.1, fun i x y h1 h2 => (h.2 i x y h1 h2).mono hs⟩
theorem FrzL.nil (H : AHeap) : FrzL H [] [] := ⟨rfl, fun i x y h => by simp at h⟩
theorem FrzL.cons {H : AHeap} {x y : AV} {xs ys : List AV} (h : Frz H x y) (k : FrzL H xs ys) : FrzL H (x :: xs) (y :: ys) := by
  refine ⟨by simp [k.1], fun i a b h1 h2 => ?_⟩
  cases i with
  | zero => simp at h1 h2; subst h1 h2; exact h
  | succ i => exact k.2 i a b (by simpa using h1) (by simpa using h2)
theorem FrzL.append {H : AHeap} {xs ys xs' ys' : List AV} (h : FrzL H xs ys) (k : FrzL H xs' ys') : FrzL H (xs ++ xs') (ys ++ ys') := by
  refine ⟨by simp [h.1, k.1], fun i a b h1 h2 => ?_⟩
  rcases Nat.lt_or_ge i xs.length with hi | hi
  · rw [List.getElem?_append_left hi] at h1
    rw [List.getElem?_append_left (by rw [h.1]; exact hi)] at h2
    exact h.2 i a b h1 h2
  · rw [List.getElem?_append_right hi] at h1
    rw [List.getElem?_append_right (by rw [h.1]; exact hi), h.1] at h2
    exact k.2 _ a b h1 h2

/-- A slice of a whole block of one's own, frozen. -/
theorem Frz.block {H : AHeap} {b : Nat} {l cs : List AV} (hb : H.get b = some (.cells l)) (h : FrzL H l cs) (es len lo : Nat) (ex : Bool) : Frz H (.slc b 0 es len lo ex) (.ro len lo ex cs) := by
  refine .slc b 0 es len lo ex l cs (fun i => l.getD i uv) hb (fun i y hy => ?_) (fun i y hy => ?_)
  · have hi : i < l.length := by rw [← h.1]; exact (List.getElem?_eq_some_iff.1 hy).1
    rw [Nat.zero_add, List.getElem?_eq_getElem hi]
    simp [hi]
  · have hi : i < l.length := by rw [← h.1]; exact (List.getElem?_eq_some_iff.1 hy).1
    refine h.2 i _ y ?_ hy
    rw [List.getElem?_eq_getElem hi]
    simp [hi]

def Rep (H : AHeap) (cells : List AV) (t : Tm) : Prop := ∃ ys, FrzL H cells ys ∧ TmR t ys

theorem Rep.mono {H H' : AHeap} (hs : Sub H H') {cells : List AV} {t : Tm} (h : Rep H cells t) : Rep H' cells t := let ⟨ys, h1, h2⟩ := h; ⟨ys, h1.mono hs, h2⟩

/-- A call that reads a term of one's own, and answers with a plain value. -/
theorem Rep.call {f : FuncId} {R : AV → Prop} {H G : AHeap} {cells : List AV} {t : Tm} (hr : Rep G cells t) (hG : Sub G H) (hs : ∀ x, R x → ∃ v, x = .v v)
    (h : ∀ ys, TmR t ys → SCall Try.prog f [.agg ys] AHeap.empty fun x H' => R x ∧ H' = AHeap.empty) : SCall Try.prog f [.agg cells] H fun x H' => R x ∧ H' = H := by
  obtain ⟨ys, h1, h2⟩ := hr.mono hG
  refine SCall.frame ((h ys h2).mono fun x H' hx => hx.1) hs fun e w us hH hL => ?_
  exact frz_list (args := [.agg cells]) (args' := [.agg ys]) rfl (fun i x y hx hy => by
    cases i with
    | zero => simp at hx hy; subst hx hy; exact .agg _ _ h1.1 h1.2
    | succ i => simp at hx) hH hL

def setTm : Tm := .mk 2 0 false (ByteArray.mk #[]) [⟨0, []⟩] []
def fstTm (t : Tm) : Tm := .mk 8 0 false (ByteArray.mk #[]) [] [t]
def appTm (a b : Tm) : Tm := .mk 5 0 false (ByteArray.mk #[]) [] [a, b]

abbrev nils : AV := .v (.slice none 0 0)
abbrev nostr : AV := .v (.string (ByteArray.mk #[]))

theorem FrzL.plain (H : AHeap) : FrzL H [aint 0, nils] [aint 0, nils] := FrzL.cons (.v _) (FrzL.cons (.v _) (FrzL.nil H))

theorem FrzL.len {H : AHeap} {xs ys : List AV} (h : FrzL H xs ys) : ys.length = xs.length := h.1

theorem Rep.len {H : AHeap} {cells : List AV} {t : Tm} (h : Rep H cells t) : cells.length = 6 := by
  obtain ⟨ys, h1, h2⟩ := h
  rw [← h1.1, h2.len]

/-- Cells of a term, one by one, none of them more than one. -/
theorem Rep.six {H : AHeap} {cells : List AV} {t : Tm} (h : Rep H cells t) : ∃ a b c d e f, cells = [a, b, c, d, e, f] ∧ a.one = true ∧ b.one = true ∧ c.one = true ∧ d.one = true ∧ e.one = true ∧ f.one = true := by
  have hl := h.len
  obtain ⟨ys, h1, h2⟩ := h
  obtain ⟨lx, kx, ls, cs, rfl, hl1, _, hk1, _⟩ := h2.six
  match cells, hl with
  | [a, b, c, d, e, f], _ =>
    have key : ∀ {x y : AV}, Frz H x y → y.one = true → x.one = true := fun {x y} hz hy => by
      cases hz <;> first | exact hy | rfl
    exact ⟨a, b, c, d, e, f, rfl, key (h1.2 0 _ _ rfl rfl) rfl, key (h1.2 1 _ _ rfl rfl) rfl, key (h1.2 2 _ _ rfl rfl) rfl, key (h1.2 3 _ _ rfl rfl) rfl, key (h1.2 4 _ _ rfl rfl) hl1.one, key (h1.2 5 _ _ rfl rfl) hk1.one⟩

end Go.Proofs.Ytooaiddfokbffaa.E

/- Terms are made, as the code makes them; the level 0 is canonical. Conditions: none. -/
set_option linter.unusedVariables false
set_option linter.unusedSimpArgs false
namespace Go.Proofs.Ytooaiddfokbffaa.E
open Go Go.Proofs
attribute [local go_sem] s_seq s_ops s_draw s_block s_skip s_ret s_exit i_nil i_cons i_run i_runG s_condQ c_true c_false aop ev_t ev_c updO_at updO_no upd_at t_normal t_ret t_exit b_normal b_ret b_exit a_some ac_v ac_agg ac_ptr ac_slc ac_ro ac_rop ac_fn new_next set_next argTm_zero argTm_succ argTm_nil ab_bool ab_uv beq_self_eq_true Option.some_beq_some Bool.not_not beq_iff_eq decide_true decide_false Bool.not_true Bool.not_false afld aload astore apack alen_str alen_ro alen_slc alen_nil new_get set_get ite_true ite_false Option.map_some Option.bind_some ibin isShift Nat.add_zero Nat.zero_add List.length_cons List.length_nil List.drop_zero List.drop_succ_cons List.take_succ_cons List.take_zero if_true if_false setL List.set_cons_zero List.set_cons_succ List.all_cons List.all_nil one_int one_bool one_str one_nil one_ptr one_slc one_ro one_rop one_fn Bool.and_self Bool.and_true true_and and_true and_self Bool.false_eq_true post_ret post_normal resAll resOne packR Option.some.injEq exists_eq_left' List.map_cons List.map_nil List.nil_append List.append_nil List.cons_append d_nil d_cons k_nil k_cons g_op g_same g_new avBlock forall_eq' List.getElem?_cons_succ List.getElem?_cons_zero List.getElem?_nil okind gOk bne false_imp_iff forall_const imp_self implies_true true_imp_iff i_callG

theorem SCall.wf {P : Program} {f : FuncId} {args : List AV} {H : AHeap} {R : AV → AHeap → Prop} (h : SCall P f args H R) : SCall P f args H fun x H' => R x H' ∧ Wf H' :=
  ⟨h.1, fun e w us h1 h2 => (h.2 e w us h1 h2).mono fun en w' ⟨u, x, H', e', a, b, c, d⟩ => ⟨u, x, H', e', a, ⟨b, c.get⟩, c, d⟩⟩

set_option maxRecDepth 100000 in
theorem set_ok (H : AHeap) : SCall Try.prog 23 [aint 0] H fun x H' => ((∃ b, H.next ≤ b ∧ x = .agg [aint 2, aint 0, abl false, nostr, .slc b 0 2 1 1 true, nils] ∧ H'.get b = some (.cells [aint 0, nils])) ∧ Ext H H') ∧ Wf H' := by
  refine SCall.wf (SCall.intro mixed cf23 ?_)
  have e1 : ¬ H.next = H.next + 1 := by omega
  have e2 : ¬ H.next + 1 = H.next := by omega
  simp -implicitDefEqProofs only [c23, go_sem, Nat.reduceEqDiff, Nat.reduceAdd, Nat.reduceLeDiff, ↓reduceIte, reduceCtorEq, Int.reduceBEq, Int.reduceBNe, Int.reduceLT, Int.reduceLE, Int.reduceGT, Int.reduceGE, Int.reduceNeg, Int.reduceAdd, Int.reduceSub, Nat.reduceMul, Nat.reduceLT, Int.reduceToNat, afill, e1, e2]
  refine ⟨⟨H.next + 1, by omega, rfl, ?_⟩, ?_, fun b hb => ?_⟩
  · simp -implicitDefEqProofs only [go_sem, Nat.reduceEqDiff, Nat.reduceAdd, Nat.reduceLeDiff, ↓reduceIte, reduceCtorEq, Int.reduceBEq, Int.reduceBNe, Int.reduceLT, Int.reduceLE, Int.reduceGT, Int.reduceGE, Int.reduceNeg, Int.reduceAdd, Int.reduceSub, Nat.reduceMul, Nat.reduceLT, Int.reduceToNat, e1, e2]
  · simp -implicitDefEqProofs only [go_sem, Nat.reduceEqDiff, Nat.reduceAdd, Nat.reduceLeDiff, ↓reduceIte, reduceCtorEq, Int.reduceBEq, Int.reduceBNe, Int.reduceLT, Int.reduceLE, Int.reduceGT, Int.reduceGE, Int.reduceNeg, Int.reduceAdd, Int.reduceSub, Nat.reduceMul, Nat.reduceLT, Int.reduceToNat]; omega
  · have k1 : ¬ b = H.next := by omega
    have k2 : ¬ b = H.next + 1 := by omega
    simp -implicitDefEqProofs only [go_sem, Nat.reduceEqDiff, Nat.reduceAdd, Nat.reduceLeDiff, ↓reduceIte, reduceCtorEq, Int.reduceBEq, Int.reduceBNe, Int.reduceLT, Int.reduceLE, Int.reduceGT, Int.reduceGE, Int.reduceNeg, Int.reduceAdd, Int.reduceSub, Nat.reduceMul, Nat.reduceLT, Int.reduceToNat, k1, k2]

/-! ### Levels -/
def isBool (b : Bool) : Option (AV × AHeap) → Bool
  | some (.v (.bool c), _) => c == b
  | _ => false

def yes : Lv → Bool := fun _ => true

/-- Terms that are made here. -/
inductive Made : Tm → Prop
  | set : Made setTm
  | fst {t : Tm} (h : Made t) : Made (fstTm t)
  | app {a b : Tm} (h : Made a) (k : Made b) : Made (appTm a b)

theorem Made.formed {t : Tm} (h : Made t) : allF (formF yes) t = true := by
  induction h with
  | set => rfl
  | fst h ih =>
    simp only [fstTm, allF, allK, ih, Bool.and_true]
    rfl
  | app h k ih1 ih2 =>
    simp only [appTm, allF, allK, ih1, ih2, Bool.and_true]
    rfl

theorem Made.check {t : Tm} (h : Made t) : checkF yes t = if (fitT 0 1 t).1 = false then 2 else 0 := by
  simp only [checkF, h.formed, Bool.true_eq_false, if_false]

def chain : Nat → Tm
  | 0 => setTm
  | n + 1 => fstTm (chain n)

end Go.Proofs.Ytooaiddfokbffaa.E

/- A term of the input, as a tree. Conditions: none. -/
set_option linter.unusedVariables false
set_option linter.unusedSimpArgs false
namespace Go.Proofs.Ytooaiddfokbffaa.E
open Go Go.Proofs

theorem mapM_at {α β : Type} {f : α → Option β} : ∀ (l : List α) (xs : List β), l.mapM f = some xs → xs.length = l.length ∧ ∀ (i : Nat) (x : α), l[i]? = some x → ∃ y, xs[i]? = some y ∧ f x = some y
  | [], xs, h => by
    simp at h
    subst h
    exact ⟨rfl, fun i x h => by simp at h⟩
  | a :: l, xs, h => by
    rw [List.mapM_cons] at h
    simp only [Option.bind_eq_bind, Option.bind_eq_some_iff, Option.pure_def, Option.some.injEq] at h
    obtain ⟨y, h1, ys, h2, rfl⟩ := h
    obtain ⟨h3, h4⟩ := mapM_at l ys h2
    refine ⟨by simp [h3], fun i x hx => ?_⟩
    cases i with
    | zero => simp at hx; subst hx; exact ⟨y, rfl, h1⟩
    | succ i => simpa using h4 i x (by simpa using hx)

theorem cells_at {w : World} {base : Nat} {a : Addr} {n : Nat} {vs : List Value} (h : w.cells? base a n = some vs) : vs.length = n ∧ ∀ (i : Nat) (u : Value), vs[i]? = some u → w.cell? (a.add i) = some u := by
  unfold World.cells? at h
  split at h
  · obtain ⟨h1, h2⟩ := mapM_at _ _ h
    rw [List.length_range] at h1
    refine ⟨h1, fun i u hu => ?_⟩
    have hi : i < n := by rw [← h1]; exact (List.getElem?_eq_some_iff.1 hu).1
    obtain ⟨y, h3, h4⟩ := h2 i i (by simp [hi])
    rw [hu] at h3
    injection h3 with h3
    rw [h3]
    exact h4
  · cases h

/-- What is read is of no more bulk than reaches. -/
def Wt {H : Type} (P : Program) (t : TypeId) (d : DataW H) : Prop := ∀ n ∈ d.weights P t, n ≤ reachBytes

theorem weightsAll_mem {H : Type} {P : Program} {e : TypeId} : ∀ {l : List (DataW H)} {d : DataW H}, d ∈ l → ∀ n ∈ d.weights P e, n ∈ DataW.weightsAll P e l
  | [], _, h, _, _ => by cases h
  | x :: r, d, h, n, hn => by
    simp only [DataW.weightsAll, List.mem_append]
    rcases List.mem_cons.1 h with rfl | h
    · exact .inl hn
    · exact .inr (weightsAll_mem h n hn)

/-- A slice's element, one by one, where the reading of the whole went well. -/
theorem trod_slice {H : Type} {enc : TypeId × Value → H} {P : Program} {w : World} {base : Nat} {sp : Nat → Bool} {held : Bool} {fuel : Nat} {t e : TypeId} (ht : P.underlying t = some (.slice e)) {v : Value} {d : DataW H} {ps : List MemPlace}
    (h : DataW.trod enc P w base sp held (fuel + 1) t [v] = some (d, ps)) (hwt : Wt P t d) :
    v = .slice none 0 0 ∨ ∃ (a : Addr) (len cap : Nat) (us : List Value), v = .slice (some a) len cap ∧ len ≤ cap ∧ cap ≤ maxLen ∧ us.length = len * P.cellsOf e ∧ (∀ (i : Nat) (u : Value), us[i]? = some u → w.cell? (a.add i) = some u) ∧
      (∀ i, i < len → ∃ d' p', DataW.trod enc P w base sp held fuel e ((us.drop (i * P.cellsOf e)).take (P.cellsOf e)) = some (d', p') ∧ Wt P e d') ∧ len * P.bytesOf e ≤ reachBytes := by
  cases v with
  | slice a len cap =>
    cases a with
    | none =>
      simp only [DataW.trod, ht] at h
      split at h <;> simp_all
    | some a =>
      simp only [DataW.trod, ht] at h
      split at h
      · rename_i hc
        obtain ⟨hc1, hc2, hc3⟩ := hc
        simp only [Option.bind_eq_some_iff] at h
        obtain ⟨elems, h2, hrest⟩ := h
        simp only [Option.map_eq_some_iff, Prod.mk.injEq] at hrest
        obtain ⟨rest, _, hd, _⟩ := hrest
        obtain ⟨h3, h4⟩ := mapM_at _ _ h2
        rw [List.length_range] at h3
        have hbulk : len * P.bytesOf e ≤ reachBytes := by
          have := hwt ((elems.length + rest.length) * P.bytesOf e) (by rw [← hd]; simp [DataW.weights, ht])
          refine Nat.le_trans (Nat.mul_le_mul_right _ ?_) this
          omega
        have key : ∀ i, i < len → ∃ vs, w.cells? base (a.add (i * P.cellsOf e)) (P.cellsOf e) = some vs ∧ vs.length = P.cellsOf e ∧ (∀ (j : Nat) (u : Value), vs[j]? = some u → w.cell? ((a.add (i * P.cellsOf e)).add j) = some u) ∧
            ∃ d' p', DataW.trod enc P w base sp held fuel e vs = some (d', p') ∧ Wt P e d' := by
          intro i hi
          obtain ⟨y, h5, h6⟩ := h4 i i (by simp [hi])
          simp only [Option.bind_eq_some_iff] at h6
          obtain ⟨vs, h7, h8⟩ := h6
          obtain ⟨h9, h10⟩ := cells_at h7
          refine ⟨vs, h7, h9, h10, y.1, y.2, h8, fun n hn => hwt n ?_⟩
          rw [← hd]
          simp only [DataW.weights, ht, List.mem_cons, List.mem_append]
          exact .inr (.inl (weightsAll_mem (List.mem_map_of_mem (List.mem_of_getElem? h5)) n hn))
        refine .inr ⟨a, len, cap, (List.range (len * P.cellsOf e)).map fun j => (w.cell? (a.add j)).getD undef, rfl, hc2, hc3, by simp, ?_, ?_, hbulk⟩
        · intro i u hu
          simp only [List.getElem?_map, Option.map_eq_some_iff] at hu
          obtain ⟨j, hj, rfl⟩ := hu
          rw [List.getElem?_eq_some_iff] at hj
          obtain ⟨hj1, hj2⟩ := hj
          simp at hj1 hj2
          subst hj2
          have hcpos : 0 < P.cellsOf e := Nat.pos_of_ne_zero fun h0 => by rw [h0] at hj1; omega
          obtain ⟨vs, q1, q2, q3, q4⟩ := key (i / P.cellsOf e) (Nat.div_lt_of_lt_mul (by rw [Nat.mul_comm]; exact hj1))
          have hr := Nat.mod_lt i hcpos
          have h5 := q3 (i % P.cellsOf e) _ (List.getElem?_eq_getElem (q2 ▸ hr))
          rw [addr_add_add, Nat.mul_comm, Nat.div_add_mod] at h5
          rw [h5]
          rfl
        · intro i hi
          obtain ⟨vs, q1, q2, q3, q4⟩ := key i hi
          have heq : (((List.range (len * P.cellsOf e)).map fun j => (w.cell? (a.add j)).getD undef).drop (i * P.cellsOf e)).take (P.cellsOf e) = vs := by
            apply List.ext_getElem?
            intro r
            rw [List.getElem?_take]
            split
            · rename_i hr
              have hlt : i * P.cellsOf e + r < len * P.cellsOf e := by
                have : (i + 1) * P.cellsOf e ≤ len * P.cellsOf e := Nat.mul_le_mul_right _ hi
                rw [Nat.add_mul] at this
                omega
              have hv := List.getElem?_eq_getElem (l := vs) (i := r) (q2 ▸ hr)
              have h5 := q3 r _ hv
              rw [addr_add_add] at h5
              rw [List.getElem?_drop, List.getElem?_map, List.getElem?_range hlt, hv]
              simp [h5]
            · rename_i hr
              rw [List.getElem?_eq_none (by omega)]
          rw [heq]
          exact q4
      · cases h
  | _ => simp [DataW.trod, ht] at h

theorem weightsEach_mem {H : Type} {P : Program} : ∀ {fs : List Field} {ds : List (DataW H)} {i : Nat} {f : Field} {d : DataW H}, fs[i]? = some f → ds[i]? = some d → ∀ n ∈ d.weights P f.type, n ∈ DataW.weightsEach P (fs.map (·.type)) ds
  | [], _, i, f, d, h, _, _, _ => by simp at h
  | _ :: _, [], i, f, d, _, h, _, _ => by simp at h
  | g :: fs, x :: ds, i, f, d, hf, hd, n, hn => by
    simp only [List.map_cons, DataW.weightsEach, List.mem_append]
    cases i with
    | zero => simp at hf hd; subst hf hd; exact .inl hn
    | succ i => exact .inr (weightsEach_mem (by simpa using hf) (by simpa using hd) n hn)

theorem trod_struct {H : Type} {enc : TypeId × Value → H} {P : Program} {w : World} {base : Nat} {sp : Nat → Bool} {held : Bool} {fuel : Nat} {t : TypeId} {fs : Array Field} (ht : P.underlying t = some (.struct fs)) {cs : List Value} {d : DataW H} {ps : List MemPlace}
    (h : DataW.trod enc P w base sp held (fuel + 1) t cs = some (d, ps)) (hwt : Wt P t d) :
    cs.length = P.cellsOf t ∧ ∀ f ∈ fs.toList, ∃ d' p', DataW.trod enc P w base sp held fuel f.type ((cs.drop f.offset).take (P.cellsOf f.type)) = some (d', p') ∧ Wt P f.type d' := by
  simp only [DataW.trod, ht] at h
  split at h
  · rename_i hl
    refine ⟨hl, fun f hf => ?_⟩
    simp only [Option.map_eq_some_iff, Prod.mk.injEq] at h
    obtain ⟨xs, h1, hd, _⟩ := h
    obtain ⟨_, h2⟩ := mapM_at _ _ h1
    obtain ⟨i, hi⟩ := List.getElem?_of_mem hf
    obtain ⟨y, hy, h3⟩ := h2 i f hi
    refine ⟨y.1, y.2, h3, fun n hn => hwt n ?_⟩
    rw [← hd]
    simp only [DataW.weights, ht]
    exact weightsEach_mem hi (by simp [hy]) n hn
  · cases h

theorem trod_int {H : Type} {enc : TypeId × Value → H} {P : Program} {w : World} {base : Nat} {sp : Nat → Bool} {held : Bool} {fuel : Nat} {t : TypeId} {k : IntKind} (ht : P.underlying t = some (.int k)) {v : Value} {d : DataW H} {ps : List MemPlace}
    (h : DataW.trod enc P w base sp held fuel t [v] = some (d, ps)) : ∃ n, v = .int k n ∧ (Lit.int k n).wf = true := by
  cases fuel with
  | zero => simp [DataW.trod] at h
  | succ fuel =>
    cases v <;> simp only [DataW.trod, ht] at h <;> try (cases h; done)
    split at h
    · rename_i hh; exact ⟨_, by rw [hh.1], hh.2⟩
    · cases h

theorem trod_bool {H : Type} {enc : TypeId × Value → H} {P : Program} {w : World} {base : Nat} {sp : Nat → Bool} {held : Bool} {fuel : Nat} {t : TypeId} (ht : P.underlying t = some .bool) {v : Value} {d : DataW H} {ps : List MemPlace}
    (h : DataW.trod enc P w base sp held fuel t [v] = some (d, ps)) : ∃ b, v = .bool b := by
  cases fuel with
  | zero => simp [DataW.trod] at h
  | succ fuel =>
    cases v <;> simp only [DataW.trod, ht] at h <;> try (cases h; done)
    exact ⟨_, rfl⟩

theorem trod_str {H : Type} {enc : TypeId × Value → H} {P : Program} {w : World} {base : Nat} {sp : Nat → Bool} {held : Bool} {fuel : Nat} {t : TypeId} (ht : P.underlying t = some .string) {v : Value} {d : DataW H} {ps : List MemPlace}
    (h : DataW.trod enc P w base sp held fuel t [v] = some (d, ps)) (hwt : Wt P t d) : ∃ s, v = .string s ∧ s.size ≤ reachBytes := by
  cases fuel with
  | zero => simp [DataW.trod] at h
  | succ fuel =>
    cases v <;> simp only [DataW.trod, ht] at h <;> try (cases h; done)
    split at h
    · rename_i s hh
      simp only [Option.some.injEq, Prod.mk.injEq] at h
      exact ⟨s, rfl, hwt s.size (by rw [← h.1]; simp [DataW.weights])⟩
    · cases h

end Go.Proofs.Ytooaiddfokbffaa.E

/- A term of the input, as a tree, whole. Conditions: none. -/
set_option linter.unusedVariables false
set_option linter.unusedSimpArgs false
namespace Go.Proofs.Ytooaiddfokbffaa.E
open Go Go.Proofs

/-- Rows of elements, each of so many cells. -/
def RL {K : Type} (c : Nat) (R : K → List AV → Prop) : List K → List AV → Prop
  | [], _ => True
  | k :: ks, cs => R k (cs.take c) ∧ RL c R ks (cs.drop c)

theorem rl_of {K : Type} {w : World} {c : Nat} {R : K → List AV → Prop} : ∀ (len : Nat) (us : List Value), us.length = len * c → (∀ i, i < len → ∃ k ys, R k ys ∧ LRel Emb.empty w ys ((us.drop (i * c)).take c)) →
    ∃ (ks : List K) (cs : List AV), ks.length = len ∧ LRel Emb.empty w cs us ∧ RL c R ks cs
  | 0, us, hl, _ => by
    have : us = [] := List.length_eq_zero_iff.1 (by omega)
    subst this
    exact ⟨[], [], rfl, ⟨rfl, fun i x u h => by simp at h⟩, trivial⟩
  | len + 1, us, hl, h => by
    rw [Nat.add_mul, Nat.one_mul] at hl
    obtain ⟨k, ys, h1, h2⟩ := h 0 (Nat.succ_pos _)
    rw [Nat.zero_mul, List.drop_zero] at h2
    obtain ⟨ks, cs, h3, h4, h5⟩ := rl_of (c := c) (R := R) len (us.drop c) (by rw [List.length_drop]; omega) (fun i hi => by
      obtain ⟨k, ys, h6, h7⟩ := h (i + 1) (by omega)
      refine ⟨k, ys, h6, ?_⟩
      rw [List.drop_drop, show c + i * c = (i + 1) * c by rw [Nat.add_mul]; omega]
      exact h7)
    have hys : ys.length = c := by
      have := h2.1
      rw [List.length_take] at this
      omega
    refine ⟨k :: ks, ys ++ cs, by simp [h3], ?_, ?_⟩
    · have := h2.append h4
      rw [List.take_append_drop] at this
      exact this
    · simp only [RL]
      rw [List.take_append_of_le_length (by omega), List.take_of_length_le (by omega), List.drop_append_of_le_length (by omega), List.drop_of_length_le (by omega), List.nil_append]
      exact ⟨h1, h5⟩

theorem slice_rel {w : World} {a : Addr} {len cap : Nat} {us : List Value} (hlc : len ≤ cap) (hcell : ∀ (i : Nat) (u : Value), us[i]? = some u → w.cell? (a.add i) = some u) {cs : List AV} (h : LRel Emb.empty w cs us) :
    VRel Emb.empty w (.ro len cap false cs) (.slice (some a) len cap) :=
  .ro len cap false cs a cap us hlc (Nat.le_refl _) (fun h => by cases h) h.1 (fun i u hu => ⟨hcell i u hu, nohit _⟩) h.2

theorem cells3 : Try.prog.cellsOf 3 = 1 := by kernel_rfl
theorem cells4 : Try.prog.cellsOf 4 = 1 := by kernel_rfl
theorem cells9 : Try.prog.cellsOf 9 = 1 := by kernel_rfl
theorem cells22 : Try.prog.cellsOf 22 = 1 := by kernel_rfl
theorem cells23 : Try.prog.cellsOf 23 = 1 := by kernel_rfl
theorem cells25 : Try.prog.cellsOf 25 = 6 := by kernel_rfl
theorem cells63 : Try.prog.cellsOf 63 = 1 := by kernel_rfl
theorem cells65 : Try.prog.cellsOf 65 = 2 := by kernel_rfl
theorem cells168 : Try.prog.cellsOf 168 = 2 := by kernel_rfl

theorem bytes25 : Try.prog.bytesOf 25 = 88 := by kernel_rfl
theorem bytes65 : Try.prog.bytesOf 65 = 32 := by kernel_rfl
theorem bytes168 : Try.prog.bytesOf 168 = 16 := by kernel_rfl
theorem reach_eq : reachBytes = 140737488351232 := rfl

def Rng (n : Int) : Prop := -9223372036854775808 ≤ n ∧ n ≤ 9223372036854775807
theorem Rng.of {n : Int} (h : (Lit.int .i64 n).wf = true) : Rng n := by
  simp only [Lit.wf, Bool.and_eq_true, decide_eq_true_eq] at h
  exact h

section
variable {H : Type} {enc : TypeId × Value → H} {w : World} {base : Nat} {sp : Nat → Bool} {held : Bool}

theorem two_of {cs : List Value} (h : cs.length = 2) : ∃ a b, cs = [a, b] := by
  match cs, h with
  | [a, b], _ => exact ⟨a, b, rfl⟩

theorem trod_var {fuel : Nat} {cs : List Value} {d : DataW H} {ps : List MemPlace} (h : DataW.trod enc Try.prog w base sp held fuel 168 cs = some (d, ps)) (hwt : Wt Try.prog 168 d) :
    ∃ v : Int × Int, (Rng v.1 ∧ Rng v.2) ∧ LRel Emb.empty w [aint v.1, aint v.2] cs := by
  cases fuel with
  | zero => simp [DataW.trod] at h
  | succ fuel =>
  obtain ⟨h1, h2⟩ := trod_struct Try.underlying168 h hwt
  rw [cells168] at h1
  obtain ⟨a, b, rfl⟩ := two_of h1
  obtain ⟨d1, p1, h3, u3⟩ := h2 _ (List.mem_cons_self ..)
  obtain ⟨d2, p2, h4, u4⟩ := h2 _ (List.mem_cons_of_mem _ (List.mem_cons_self ..))
  simp only [cells3, List.drop_zero, List.take_succ_cons, List.take_zero, List.drop_succ_cons] at h3 h4
  obtain ⟨m, rfl, w1⟩ := trod_int Try.underlying3 h3
  obtain ⟨n, rfl, w2⟩ := trod_int Try.underlying3 h4
  refine ⟨(m, n), ⟨Rng.of w1, Rng.of w2⟩, rfl, fun i x u hx hu => ?_⟩
  match i, hx, hu with
  | 0, hx, hu => simp at hx hu; subst hx hu; exact .v _ rfl
  | 1, hx, hu => simp at hx hu; subst hx hu; exact .v _ rfl

theorem vars_of_rl : ∀ {vars : List (Int × Int)} {vs : List AV}, RL 2 (fun (v : Int × Int) ys => (Rng v.1 ∧ Rng v.2) ∧ ys = [aint v.1, aint v.2]) vars vs → VarsR vars vs ∧ ∀ v ∈ vars, Rng v.1 ∧ Rng v.2
  | [], _, _ => ⟨trivial, fun v hv => by cases hv⟩
  | v :: r, vs, h => by
    simp only [RL] at h
    obtain ⟨⟨h1, h2⟩, h3⟩ := h
    obtain ⟨h4, h5⟩ := vars_of_rl h3
    refine ⟨⟨h2, h4⟩, fun x hx => ?_⟩
    rcases List.mem_cons.1 hx with rfl | hx
    · exact h1
    · exact h5 x hx

/-- A level's own bounds. -/
def LvB (l : Lv) : Prop := Rng l.n ∧ l.vars.length * 16 ≤ 140737488351232 ∧ ∀ v ∈ l.vars, Rng v.1 ∧ Rng v.2

theorem rel_two {x y : AV} {u v : Value} (h : VRel Emb.empty w x u) (k : VRel Emb.empty w y v) : LRel Emb.empty w [x, y] [u, v] :=
  ⟨rfl, fun i a b hx hu => by
    match i, hx, hu with
    | 0, hx, hu => simp at hx hu; subst hx hu; exact h
    | 1, hx, hu => simp at hx hu; subst hx hu; exact k⟩

theorem trod_lv {fuel : Nat} {cs : List Value} {d : DataW H} {ps : List MemPlace} (h : DataW.trod enc Try.prog w base sp held fuel 65 cs = some (d, ps)) (hwt : Wt Try.prog 65 d) :
    ∃ (l : Lv) (vx : AV) (vs : List AV), LvB l ∧ SlR l.vars.length vx vs ∧ VarsR l.vars vs ∧ LRel Emb.empty w [aint l.n, vx] cs := by
  cases fuel with
  | zero => simp [DataW.trod] at h
  | succ fuel =>
  obtain ⟨h1, h2⟩ := trod_struct Try.underlying65 h hwt
  rw [cells65] at h1
  obtain ⟨a, b, rfl⟩ := two_of h1
  obtain ⟨d1, p1, h3, u3⟩ := h2 _ (List.mem_cons_self ..)
  obtain ⟨d2, p2, h4, u4⟩ := h2 _ (List.mem_cons_of_mem _ (List.mem_cons_self ..))
  simp only [cells3, cells63, List.drop_zero, List.take_succ_cons, List.take_zero, List.drop_succ_cons] at h3 h4
  obtain ⟨m, rfl, w1⟩ := trod_int Try.underlying3 h3
  cases fuel with
  | zero => simp [DataW.trod] at h4
  | succ fuel =>
  rcases trod_slice Try.underlying63 h4 u4 with rfl | ⟨ad, len, cap, us, rfl, k1, k2, k3, k4, k5, k6⟩
  · exact ⟨⟨m, []⟩, nils, [], ⟨Rng.of w1, by simp, fun v hv => by cases hv⟩, .inl ⟨rfl, rfl⟩, trivial, rel_two (.v _ rfl) (.v _ rfl)⟩
  · rw [cells168] at k3 k5
    rw [bytes168, reach_eq] at k6
    obtain ⟨vars, vs, q1, q2, q3⟩ := rl_of (c := 2) (R := fun (v : Int × Int) ys => (Rng v.1 ∧ Rng v.2) ∧ ys = [aint v.1, aint v.2]) len us k3 (fun i hi => by
      obtain ⟨d', p', k6, k9⟩ := k5 i hi
      obtain ⟨v, k7, k8⟩ := trod_var k6 k9
      exact ⟨v, _, ⟨k7, rfl⟩, k8⟩)
    obtain ⟨q4, q5⟩ := vars_of_rl q3
    exact ⟨⟨m, vars⟩, .ro len cap false vs, vs, ⟨Rng.of w1, by simp only [q1]; omega, q5⟩, .inr ⟨cap, false, by simp only [q1], by simp only [q1]; omega⟩, q4, rel_two (.v _ rfl) (slice_rel k1 k4 q2)⟩

end

end Go.Proofs.Ytooaiddfokbffaa.E

/- A term of the input, as a tree, whole. Conditions: none. -/
set_option linter.unusedVariables false
set_option linter.unusedSimpArgs false
namespace Go.Proofs.Ytooaiddfokbffaa.E
open Go Go.Proofs

theorem lvs_of_rl : ∀ {ls : List Lv} {cs : List AV}, RL 2 (fun (l : Lv) ys => LvB l ∧ ∃ vx vs, SlR l.vars.length vx vs ∧ VarsR l.vars vs ∧ ys = [aint l.n, vx]) ls cs → LvsR ls cs ∧ ∀ l ∈ ls, LvB l
  | [], _, _ => ⟨trivial, fun v hv => by cases hv⟩
  | l :: r, cs, h => by
    simp only [RL] at h
    obtain ⟨⟨h1, vx, vs, h2, h3, h4⟩, h5⟩ := h
    obtain ⟨h6, h7⟩ := lvs_of_rl h5
    refine ⟨⟨⟨vx, vs, h4, h2, h3⟩, h6⟩, fun x hx => ?_⟩
    rcases List.mem_cons.1 hx with rfl | hx
    · exact h1
    · exact h7 x hx

/-- A part's own bounds. -/
def TmB (t : Tm) : Prop := Rng t.form ∧ Rng t.n ∧ t.name.size ≤ 140737488351232 ∧ t.lv.length * 32 ≤ 140737488351232 ∧ t.kids.length * 88 ≤ 140737488351232 ∧ ∀ l ∈ t.lv, LvB l

theorem ks_of_rl : ∀ {ks : List Tm} {cs : List AV}, RL 6 (fun (t : Tm) ys => Tm.All TmB t ∧ TmR t ys) ks cs → KsR ks cs ∧ Tm.AllL TmB ks
  | [], _, _ => ⟨trivial, trivial⟩
  | k :: r, cs, h => by
    simp only [RL] at h
    obtain ⟨⟨h1, h2⟩, h3⟩ := h
    obtain ⟨h4, h5⟩ := ks_of_rl h3
    exact ⟨⟨h2, h4⟩, h1, h5⟩

section
variable {H : Type} {enc : TypeId × Value → H} {w : World} {base : Nat} {sp : Nat → Bool} {held : Bool}

theorem six_of {cs : List Value} (h : cs.length = 6) : ∃ a b c d e f, cs = [a, b, c, d, e, f] := by
  match cs, h with
  | [a, b, c, d, e, f], _ => exact ⟨a, b, c, d, e, f, rfl⟩

theorem trod_tm : ∀ (fuel : Nat) (cs : List Value) (d : DataW H) (ps : List MemPlace), DataW.trod enc Try.prog w base sp held fuel 25 cs = some (d, ps) → Wt Try.prog 25 d →
    ∃ (t : Tm) (ys : List AV), Tm.All TmB t ∧ TmR t ys ∧ LRel Emb.empty w ys cs := by
  intro fuel
  induction fuel using Nat.strongRecOn with
  | _ fuel ih =>
  intro cs d ps h hwt
  cases fuel with
  | zero => simp [DataW.trod] at h
  | succ fuel =>
  obtain ⟨h1, h2⟩ := trod_struct Try.underlying25 h hwt
  rw [cells25] at h1
  obtain ⟨v1, v2, v3, v4, v5, v6, rfl⟩ := six_of h1
  simp only [Array.toList, List.mem_cons, List.not_mem_nil, or_false, forall_eq_or_imp, forall_eq] at h2
  obtain ⟨⟨_, _, g1, _⟩, ⟨_, _, g2, _⟩, ⟨_, _, g3, _⟩, ⟨_, _, g4, f4⟩, ⟨_, _, g5, f5⟩, ⟨_, _, g6, f6⟩⟩ := h2
  simp only [cells3, cells4, cells9, cells22, cells23, List.drop_zero, List.take_succ_cons, List.take_zero, List.drop_succ_cons] at g1 g2 g3 g4 g5 g6
  obtain ⟨f, rfl, w1⟩ := trod_int Try.underlying3 g1
  obtain ⟨n, rfl, w2⟩ := trod_int Try.underlying3 g2
  obtain ⟨hid, rfl⟩ := trod_bool Try.underlying4 g3
  obtain ⟨s, rfl, w4⟩ := trod_str Try.underlying9 g4 f4
  cases fuel with
  | zero => simp [DataW.trod] at g5
  | succ fuel =>
  have hlv : ∃ (lv : List Lv) (lx : AV) (ls : List AV), lv.length * 32 ≤ 140737488351232 ∧ (∀ l ∈ lv, LvB l) ∧ SlR lv.length lx ls ∧ LvsR lv ls ∧ VRel Emb.empty w lx v5 := by
    rcases trod_slice Try.underlying22 g5 f5 with rfl | ⟨ad, len, cap, us, rfl, k1, k2, k3, k4, k5, kb⟩
    · exact ⟨[], nils, [], by simp, (fun v hv => by cases hv), .inl ⟨rfl, rfl⟩, trivial, .v _ rfl⟩
    · rw [cells65] at k3 k5
      rw [bytes65, reach_eq] at kb
      obtain ⟨lv, ls, q1, q2, q3⟩ := rl_of (c := 2) (R := fun (l : Lv) ys => LvB l ∧ ∃ vx vs, SlR l.vars.length vx vs ∧ VarsR l.vars vs ∧ ys = [aint l.n, vx]) len us k3 (fun i hi => by
        obtain ⟨d', p', k6, kw⟩ := k5 i hi
        obtain ⟨l, vx, vs, k7, k8, k9, k10⟩ := trod_lv k6 kw
        exact ⟨l, _, ⟨k7, vx, vs, k8, k9, rfl⟩, k10⟩)
      obtain ⟨q4, q5⟩ := lvs_of_rl q3
      exact ⟨lv, .ro len cap false ls, ls, by omega, q5, .inr ⟨cap, false, by rw [q1], by omega⟩, q4, slice_rel k1 k4 q2⟩
  have hks : ∃ (ks : List Tm) (kx : AV) (cs : List AV), ks.length * 88 ≤ 140737488351232 ∧ Tm.AllL TmB ks ∧ SlR ks.length kx cs ∧ KsR ks cs ∧ VRel Emb.empty w kx v6 := by
    rcases trod_slice Try.underlying23 g6 f6 with rfl | ⟨ad, len, cap, us, rfl, k1, k2, k3, k4, k5, kb⟩
    · exact ⟨[], nils, [], by simp, trivial, .inl ⟨rfl, rfl⟩, trivial, .v _ rfl⟩
    · rw [cells25] at k3 k5
      rw [bytes25, reach_eq] at kb
      obtain ⟨ks, cs', q1, q2, q3⟩ := rl_of (c := 6) (R := fun (t : Tm) ys => Tm.All TmB t ∧ TmR t ys) len us k3 (fun i hi => by
        obtain ⟨d', p', k6, kw⟩ := k5 i hi
        obtain ⟨t, ys, k7, k8, k9⟩ := ih fuel (by omega) _ _ _ k6 kw
        exact ⟨t, ys, ⟨k7, k8⟩, k9⟩)
      obtain ⟨q4, q5⟩ := ks_of_rl q3
      exact ⟨ks, .ro len cap false cs', cs', by omega, q5, .inr ⟨cap, false, by rw [q1], by omega⟩, q4, slice_rel k1 k4 q2⟩
  obtain ⟨lv, lx, ls, r1, r2, r3, r4, r5⟩ := hlv
  obtain ⟨ks, kx, cs', m1, m2, m3, m4, m5⟩ := hks
  refine ⟨.mk f n hid s lv ks, [aint f, aint n, abl hid, .v (.string s), lx, kx], ?_, ?_, rfl, fun i x u hx hu => ?_⟩
  · simp only [Tm.All]
    exact ⟨⟨Rng.of w1, Rng.of w2, w4, r1, m1, r2⟩, m2⟩
  · simp only [TmR]
    exact ⟨lx, kx, ls, cs', rfl, r3, r4, m3, m4⟩
  · match i, hx, hu with
    | 0, hx, hu => simp at hx hu; subst hx hu; exact .v _ rfl
    | 1, hx, hu => simp at hx hu; subst hx hu; exact .v _ rfl
    | 2, hx, hu => simp at hx hu; subst hx hu; exact .v _ rfl
    | 3, hx, hu => simp at hx hu; subst hx hu; exact .v _ rfl
    | 4, hx, hu => simp at hx hu; subst hx hu; exact r5
    | 5, hx, hu => simp at hx hu; subst hx hu; exact m5

end
end Go.Proofs.Ytooaiddfokbffaa.E

/- The law TermLong, walked. Conditions: none. -/
set_option linter.unusedVariables false
set_option linter.unusedSimpArgs false
set_option maxRecDepth 1000000
namespace Go.Proofs.Ytooaiddfokbffaa.E
open Go Go.Proofs
attribute [local go_sem] s_seq s_ops s_draw s_block s_skip s_ret s_exit i_nil i_cons i_run i_runG s_condQ c_true c_false aop ev_t ev_c updO_at updO_no upd_at t_normal t_ret t_exit b_normal b_ret b_exit a_some ac_v ac_agg ac_ptr ac_slc ac_ro ac_rop ac_fn new_next set_next argTm_zero argTm_succ argTm_nil ab_bool ab_uv beq_self_eq_true Option.some_beq_some Bool.not_not beq_iff_eq decide_true decide_false Bool.not_true Bool.not_false afld aload astore apack alen_str alen_ro alen_slc alen_nil new_get set_get ite_true ite_false Option.map_some Option.bind_some ibin isShift Nat.add_zero Nat.zero_add List.length_cons List.length_nil List.drop_zero List.drop_succ_cons List.take_succ_cons List.take_zero if_true if_false setL List.set_cons_zero List.set_cons_succ List.all_cons List.all_nil one_int one_bool one_str one_nil one_ptr one_slc one_ro one_rop one_fn Bool.and_self Bool.and_true true_and and_true and_self Bool.false_eq_true post_ret post_normal resAll resOne packR Option.some.injEq exists_eq_left' List.map_cons List.map_nil List.nil_append List.append_nil List.cons_append d_nil d_cons k_nil k_cons g_op g_same g_new avBlock forall_eq' List.getElem?_cons_succ List.getElem?_cons_zero List.getElem?_nil okind gOk bne false_imp_iff forall_const imp_self implies_true true_imp_iff i_callG

end Go.Proofs.Ytooaiddfokbffaa.E

/- Calls whose answer is laid out anew: frozen at their end; loops over rows. Conditions: none. -/
set_option linter.unusedVariables false
set_option linter.unusedSimpArgs false
namespace Go.Proofs.Ytooaiddfokbffaa.E
open Go

/-- What is new is frozen, what was there stays. -/
inductive FrzN (n : Nat) (H : AHeap) : AV → AV → Prop
  | keep (x : AV) (h : Old n x) : FrzN n H x x
  | slc (b off es len lo : Nat) (ex : Bool) (l cs : List AV) (hb : H.get b = some (.cells l)) (hn : n ≤ b) (hl : cs.length ≤ l.length - off)
      (hz : ∀ (i : Nat) (x y : AV), l[off + i]? = some x → cs[i]? = some y → FrzN n H x y) : FrzN n H (.slc b off es len lo ex) (.ro len lo ex cs)
  | agg (l cs : List AV) (hn : cs.length = l.length) (hz : ∀ (i : Nat) (x y : AV), l[i]? = some x → cs[i]? = some y → FrzN n H x y) : FrzN n H (.agg l) (.agg cs)
  | tup (l cs : List AV) (hn : cs.length = l.length) (hz : ∀ (i : Nat) (x y : AV), l[i]? = some x → cs[i]? = some y → FrzN n H x y) : FrzN n H (.tup l) (.tup cs)

section
variable {e : Emb} {w : World} {H : AHeap} {P : Program}

theorem FrzN.rel {n : Nat} (hH : HRel e H w) {x y : AV} (h : FrzN n H x y) : ∀ u, VRel e w x u → VRel (e.cut n) w y u := by
  induction h with
  | keep x h => intro u hu; exact hu.cut h
  | slc b off es len lo ex l cs hb hn hl hz ih =>
    intro u hu
    cases hu with
    | slc _ _ _ _ _ _ c k hm hl' hlo hcap ws t fr hw hs =>
    obtain ⟨hlive, ws', t', h1, h2⟩ := hH.obj b _ c hb hm
    rw [hw] at h1
    injection h1 with h1
    injection h1 with h1 _ _
    subst h1
    have hno : ¬ (e.cut n).hits c := by
      rintro ⟨b', q1, q2⟩
      rw [cut_map] at q1
      split at q1
      · rename_i hlt
        have := hH.inj b' b c q1 hm q2 hlive
        omega
      · cases q1
    have hget : ∀ i, i < cs.length → ∃ u, ws[off + i]? = some u ∧ ∃ x, l[off + i]? = some x ∧ VRel e w x u := fun i hi => by
      have hx := List.getElem?_eq_getElem (l := l) (i := off + i) (by omega)
      obtain ⟨u, h3, h4⟩ := h2 (off + i) _ hx
      exact ⟨u, h3, _, hx, h4⟩
    refine .ro len lo ex cs ⟨c, off, none⟩ k ((List.range cs.length).map fun i => ws.getD (off + i) undef) hl' hlo hcap (by simp) (fun i u hu => ⟨?_, hno⟩) (fun i y u hy hu => ?_)
    · simp only [List.getElem?_map, Option.map_eq_some_iff] at hu
      obtain ⟨j, hj, rfl⟩ := hu
      rw [List.getElem?_eq_some_iff] at hj
      obtain ⟨hj1, hj2⟩ := hj
      simp at hj1 hj2
      subst hj2
      obtain ⟨u, h3, _⟩ := hget i hj1
      rw [addr_add_plain]
      unfold World.cell?
      simp only [hw]
      rw [Array.getD_eq_getD_getElem?, h3]
      rfl
    · simp only [List.getElem?_map, Option.map_eq_some_iff] at hu
      obtain ⟨j, hj, rfl⟩ := hu
      rw [List.getElem?_eq_some_iff] at hj
      obtain ⟨hj1, hj2⟩ := hj
      simp at hj1 hj2
      subst hj2
      obtain ⟨u, h3, x, hx, h4⟩ := hget i hj1
      rw [Array.getD_eq_getD_getElem?, h3]
      exact ih i x y hx hy u h4
  | agg l cs hn hz ih =>
    intro u hu
    cases hu with
    | agg _ us hn' hr =>
      refine .agg cs us (by omega) fun i y u hy hu => ?_
      have hi : i < l.length := by rw [← hn]; exact (List.getElem?_eq_some_iff.1 hy).1
      exact ih i _ y (List.getElem?_eq_getElem hi) hy u (hr i _ u (List.getElem?_eq_getElem hi) hu)
  | tup l cs hn hz ih =>
    intro u hu
    cases hu with
    | tup _ us hn' hr =>
      refine .tup cs us (by omega) fun i y u hy hu => ?_
      have hi : i < l.length := by rw [← hn]; exact (List.getElem?_eq_some_iff.1 hy).1
      exact ih i _ y (List.getElem?_eq_getElem hi) hy u (hr i _ u (List.getElem?_eq_getElem hi) hu)

def WfH (H : AHeap) : Prop := ∀ b o, H.get b = some o → b < H.next

/-- The answer, and what is new of it, is frozen; the heap is as it was, but for what is told. -/
theorem SCall.frzTo {f : FuncId} {args : List AV} {R : AV → AHeap → Prop} {G : AV → AHeap → Prop} (h : SCall P f args H R)
    (ho : (∀ y, y ∈ args → Old H.next y) → WfH H → ∀ x H', R x H' → WfH H' → ∃ H1, H1.next = H.next ∧ WfH H1 ∧ H.next ≤ H'.next ∧ (∀ b, b < H.next → H'.get b = H1.get b) ∧
      (∀ b, b < H.next → ∀ o, H1.get b = some o → H.get b = some o ∨ OldO H.next o) ∧ ∃ y, FrzN H.next H' x y ∧ G y H1) : SCall P f args H G := by
  refine ⟨h.1, fun e w us hH hL => (h.2 e w us hH hL).mono fun en w' hp => ?_⟩
  obtain ⟨u, x, H', e', rfl, h1, h2, h3, h4⟩ := hp
  obtain ⟨H1, k1, k2, k3, k4, k5, y, k6, k7⟩ := ho (hL.old hH) hH.get x H' h1 h2.get
  have heq : H'.cut H.next = H1 := by
    cases H1 with
    | mk g n =>
      simp only at k1
      subst k1
      simp only [AHeap.cut, AHeap.mk.injEq, and_true]
      funext b
      split
      · rename_i hb; exact k4 b hb
      · rename_i hb
        cases hg : g b with
        | none => rfl
        | some o => exact absurd (k2 b o hg) hb
  refine ⟨u, y, H1, e'.cut H.next, rfl, k7, ?_, k6.rel h2 u h3, h4.cut hH⟩
  rw [← heq]
  refine h2.cut k3 (fun b hb o c hg hm => ?_)
  rw [k4 b hb] at hg
  rcases k5 b hb o hg with k | k
  · cases he : e.map b with
    | none => have := h4.un b (by rw [hH.next]; exact hb) he; rw [hm] at this; cases this
    | some c' => exact hH.oldO k he
  · exact k

theorem SCall.frz {f : FuncId} {args : List AV} {R : AV → AHeap → Prop} {G : AV → Prop} (h : SCall P f args H R)
    (ho : (∀ y, y ∈ args → Old H.next y) → WfH H → ∀ x H', R x H' → WfH H' → Ext H H' ∧ ∃ y, FrzN H.next H' x y ∧ G y) : SCall P f args H fun y H' => G y ∧ H' = H :=
  h.frzTo fun ha hw x H' hr hw' => let ⟨⟨h1, h2⟩, y, h3, h4⟩ := ho ha hw x H' hr hw'; ⟨H, rfl, hw, h1, h2, fun b _ o hg => .inl hg, y, h3, h4, rfl⟩

/-- What a call answers leads to no block behind its heap. -/
theorem SCall.old {f : FuncId} {args : List AV} {R : AV → AHeap → Prop} (h : SCall P f args H R) : SCall P f args H fun x H' => R x H' ∧ Old H'.next x ∧ WfH H' :=
  ⟨h.1, fun e w us h1 h2 => (h.2 e w us h1 h2).mono fun en w' ⟨u, x, H', e', a, b, c, d, g⟩ => ⟨u, x, H', e', a, ⟨b, d.old fun b c hm => HRel.mlt ‹_› hm, c.get⟩, c, d, g⟩⟩

theorem Old.mono {n m : Nat} (hn : n ≤ m) {x : AV} (h : Old n x) : Old m x := by
  induction h with
  | v x => exact .v x
  | ptr b off h => exact .ptr b off (Nat.lt_of_lt_of_le h hn)
  | slc b off es len lo ex h => exact .slc b off es len lo ex (Nat.lt_of_lt_of_le h hn)
  | ro len lo ex cells h ih => exact .ro len lo ex cells ih
  | rop cells off h ih => exact .rop cells off ih
  | fn f a b h1 h2 ih1 ih2 => exact .fn f a b ih1 ih2
  | agg cells h ih => exact .agg cells ih
  | tup cells h ih => exact .tup cells ih
  | ifc t x h ih => exact .ifc t x ih
  | mp b h => exact .mp b (Nat.lt_of_lt_of_le h hn)
  | ch b h => exact .ch b (Nat.lt_of_lt_of_le h hn)
  | yld b h => exact .yld b (Nat.lt_of_lt_of_le h hn)

theorem Old.aggs {n : Nat} {cs : List AV} (h : Old n (.agg cs)) : ∀ x ∈ cs, Old n x := by cases h; assumption
theorem Ext.refl (H : AHeap) : Ext H H := ⟨Nat.le_refl _, fun _ _ => rfl⟩
theorem Ext.trans {H1 H2 : AHeap} (h : Ext H H1) (k : Ext H1 H2) : Ext H H2 := ⟨Nat.le_trans h.1 k.1, fun b hb => by rw [k.2 b (Nat.lt_of_lt_of_le hb h.1), h.2 b hb]⟩
theorem Ext.new {H1 : AHeap} (h : Ext H H1) (o : AObj) : Ext H (H1.new o) := ⟨Nat.le_succ_of_le h.1, fun b hb => by rw [new_get, if_neg (by have := h.1; omega)]; exact h.2 b hb⟩
theorem Ext.set {H1 : AHeap} (h : Ext H H1) {b : Nat} (hb : H.next ≤ b) (o : AObj) : Ext H (H1.set b o) := ⟨h.1, fun x hx => by rw [set_get, if_neg (by omega)]; exact h.2 x hx⟩
theorem Ext.kill {H1 : AHeap} (h : Ext H H1) {b : Nat} (hb : H.next ≤ b) : Ext H (H1.kill b) := ⟨h.1, fun x hx => by rw [kill_get, if_neg (by omega)]; exact h.2 x hx⟩

/-- A loop that goes over a row. -/
theorem swp_range {b : ACode} {Q : AExit → ASt → Prop} (n : Nat) (I : Nat → ASt → Prop) {st : ASt} (h0 : I 0 st) (hstep : ∀ i st, i < n → I i st → swp P b (thenQ (I (i + 1)) Q) st)
    (hend : ∀ st, I n st → swp P b (thenQ (fun _ => False) Q) st) : swp P (.loop b) Q st := by
  refine swp_loop (fun k st => ∃ i, k = n - i ∧ i ≤ n ∧ I i st) (k := n) ⟨0, by omega, by omega, h0⟩ ?_
  rintro k st ⟨i, rfl, hi, hI⟩
  rcases Nat.lt_or_ge i n with h | h
  · exact swp_mono b (hstep i st h hI) fun x st' hx => by
      cases x with
      | normal => exact ⟨n - (i + 1), by omega, i + 1, rfl, by omega, hx⟩
      | ret => exact hx
      | exit id => exact hx
  · obtain rfl : i = n := by omega
    exact swp_mono b (hend st hI) fun x st' hx => by
      cases x with
      | normal => exact hx.elim
      | ret => exact hx
      | exit id => exact hx

end
end Go.Proofs.Ytooaiddfokbffaa.E

/- Rows that are made by appending. Conditions: none. -/
set_option linter.unusedVariables false
set_option linter.unusedSimpArgs false
namespace Go.Proofs.Ytooaiddfokbffaa.E
open Go

/-- A row of so many elements, made here: its cells. -/
def OutS (H : AHeap) (base es n : Nat) (l : List AV) (x : AV) : Prop :=
  (n = 0 ∧ l = [] ∧ x = .v (.slice none 0 0)) ∨ ∃ b, base ≤ b ∧ b < H.next ∧ x = .slc b 0 es n n false ∧ H.get b = some (.cells l) ∧ l.length = n * es

section
variable {P : Program} {H : AHeap} {base es n : Nat} {l : List AV} {x : AV}

theorem OutS.nil : OutS H base es 0 [] (.v (.slice none 0 0)) := .inl ⟨rfl, rfl, rfl⟩
theorem OutS.alen (h : OutS H base es n l x) (H' : AHeap) : alen H' .slice x = some n := by
  rcases h with ⟨rfl, rfl, rfl⟩ | ⟨b, h1, h2, rfl, h3⟩ <;> rfl
theorem OutS.one (h : OutS H base es n l x) : x.one = true := by
  rcases h with ⟨rfl, rfl, rfl⟩ | ⟨b, h1, h2, rfl, h3⟩ <;> rfl
theorem OutS.cells (h : OutS H base es n l x) : x.acells = [x] := by
  rcases h with ⟨rfl, rfl, rfl⟩ | ⟨b, h1, h2, rfl, h3⟩ <;> rfl
theorem OutS.new (h : OutS H base es n l x) (o : AObj) : OutS (H.new o) base es n l x := by
  rcases h with h | ⟨b, h1, h2, h3, h4, h5⟩
  · exact .inl h
  · exact .inr ⟨b, h1, by rw [new_next]; omega, h3, by rw [new_get, if_neg (by omega)]; exact h4, h5⟩
theorem OutS.set (h : OutS H base es n l x) {b' : Nat} (hb : ∀ off es' n' lo ex, x ≠ .slc b' off es' n' lo ex) (o : AObj) : OutS (H.set b' o) base es n l x := by
  rcases h with h | ⟨b, h1, h2, h3, h4, h5⟩
  · exact .inl h
  · exact .inr ⟨b, h1, by rw [set_next]; omega, h3, by rw [set_get, if_neg (fun hh => hb _ _ _ _ _ (hh ▸ h3))]; exact h4, h5⟩
/-- Another heap, in which it is as it was. -/
theorem OutS.keep (h : OutS H base es n l x) {H' : AHeap} (hn : H.next ≤ H'.next) (hk : ∀ b off es' n' lo ex, x = .slc b off es' n' lo ex → H'.get b = H.get b) : OutS H' base es n l x := by
  rcases h with h | ⟨b, h1, h2, h3, h4, h5⟩
  · exact .inl h
  · exact .inr ⟨b, h1, by omega, h3, by rw [hk b _ _ _ _ _ h3]; exact h4, h5⟩

theorem OutS.low (h : OutS H base es n l x) {base' : Nat} (hb : base' ≤ base) : OutS H base' es n l x := by
  rcases h with h | ⟨b, h1, h2⟩
  · exact .inl h
  · exact .inr ⟨b, by omega, h2⟩

theorem OutS.step {K : ASt → Prop} {tm : Nat → AV} {d : Option Nat} {bytes m : Nat} {y : AV} {new : List AV} (hO : OutS H base es n l x) (hsrc : asrc H es y = some (m, new)) (hone : new.all AV.one = true) (hm : 0 < m) (hes : 0 < es)
    (hlim : (n + m) * bytes ≤ 140737488355328 ∧ n + m ≤ 9223372036854775807) (hnl : new.length = m * es) (hbase : base ≤ H.next)
    (k : ∀ x' H', OutS H' base es (n + m) (l ++ new) x' → H.next ≤ H'.next → (∀ b, b < H.next → (∀ off es' n' lo ex, x ≠ .slc b off es' n' lo ex) → H'.get b = H.get b) → K ⟨updO tm d x', H'⟩) :
    after K tm d (aappend H es bytes x y) := by
  unfold aappend
  rw [hsrc]
  simp only
  rw [if_neg (by rw [hone]; simp; omega)]
  rcases hO with ⟨rfl, rfl, rfl⟩ | ⟨b, h1, h2, rfl, h3, h4⟩
  · simp only
    rw [if_neg (by omega), if_pos (by rw [Nat.zero_add] at hlim; exact hlim)]
    simp only [after]
    refine k _ _ (.inr ⟨H.next, hbase, by rw [new_next]; omega, by rw [Nat.zero_add], by rw [new_get, if_pos rfl]; simp, by rw [Nat.zero_add]; simpa using hnl⟩) (Nat.le_succ _) fun b hb _ => ?_
    rw [new_get, if_neg (by omega)]
  · simp only [h3]
    rw [if_pos ⟨trivial, by omega⟩, if_neg (by omega), if_neg (by omega), if_pos hlim, if_neg (by simp), if_pos ⟨trivial, h4⟩]
    simp only [after]
    refine k _ _ (.inr ⟨H.next, hbase, by rw [new_next]; exact Nat.lt_succ_self _, rfl, by rw [new_get]; exact if_pos rfl, by rw [List.length_append, h4, hnl, Nat.add_mul]⟩) (Nat.le_succ _) fun b' hb hne => ?_
    have : b' ≠ b := fun hh => hne 0 es n n false (by rw [hh])
    rw [new_get, if_neg (show ¬ b' = (H.kill b).next from (show ¬ b' = H.next by omega)), kill_get, if_neg this]

/-- The same, with nothing new. -/
theorem OutS.step0 {K : ASt → Prop} {tm : Nat → AV} {d : Option Nat} {bytes : Nat} {y : AV} (hO : OutS H base es n l x) (hsrc : asrc H es y = some (0, [])) (hes : 0 < es)
    (k : K ⟨updO tm d x, H⟩) : after K tm d (aappend H es bytes x y) := by
  unfold aappend
  rw [hsrc]
  simp only
  rw [if_neg (by simp; omega)]
  rcases hO with ⟨rfl, rfl, rfl⟩ | ⟨b, h1, h2, rfl, h3, h4⟩
  · simp only [if_pos, after]; exact k
  · simp only [h3]
    rw [if_pos ⟨trivial, by omega⟩, if_pos trivial]
    exact k

theorem OutS.frz (hO : OutS H base es n l x) {N : Nat} (hN : N ≤ base) {cs : List AV} (hl : cs.length = l.length) (hz : ∀ (i : Nat) (x y : AV), l[i]? = some x → cs[i]? = some y → FrzN N H x y) :
    ∃ y, FrzN N H x y ∧ ((n = 0 ∧ y = .v (.slice none 0 0)) ∨ ∃ lo ex, y = .ro n lo ex cs ∧ n ≤ lo) := by
  rcases hO with ⟨rfl, rfl, rfl⟩ | ⟨b, h1, h2, rfl, h3, h4⟩
  · exact ⟨_, .keep _ (.v _), .inl ⟨rfl, rfl⟩⟩
  · exact ⟨_, .slc b 0 es n n false l cs h3 (by omega) (by omega) (fun i x y hx hy => hz i x y (by simpa using hx) hy), .inr ⟨n, false, rfl, Nat.le_refl _⟩⟩

/-- The same, of what is old. -/
theorem OutS.frzOld (hO : OutS H base es n l x) {N : Nat} (hN : N ≤ base) (ho : ∀ y ∈ l, Old N y) : ∃ y, FrzN N H x y ∧ ((n = 0 ∧ y = .v (.slice none 0 0)) ∨ ∃ lo ex, y = .ro n lo ex l ∧ n ≤ lo) :=
  hO.frz hN rfl fun i x y hx hy => by rw [hx] at hy; injection hy with hy; subst hy; exact .keep _ (ho _ (List.mem_of_getElem? hx))

theorem asrc_slc {b off m lo : Nat} {ex : Bool} {c : List AV} (hb : H.get b = some (.cells c)) (hl : off + m * es ≤ c.length) : asrc H es (.slc b off es m lo ex) = some (m, (c.drop off).take (m * es)) := by
  simp only [asrc, hb]
  rw [if_pos ⟨trivial, hl⟩]

/-- A block is given away: what leads there is frozen. -/
inductive FrzK (b : Nat) (l : List AV) : AV → AV → Prop
  | keep (x : AV) : FrzK b l x x
  | slc (off es len lo : Nat) (ex : Bool) (cs : List AV) (hl : off + cs.length ≤ l.length) (hc : cs = (l.drop off).take cs.length) : FrzK b l (.slc b off es len lo ex) (.ro len lo ex cs)
  | ptr (off : Nat) : FrzK b l (.ptr b off) (.rop l off)
  | ro (len lo : Nat) (ex : Bool) (cs ds : List AV) (hn : ds.length = cs.length) (hz : ∀ (i : Nat) (x y : AV), cs[i]? = some x → ds[i]? = some y → FrzK b l x y) : FrzK b l (.ro len lo ex cs) (.ro len lo ex ds)
  | agg (cs ds : List AV) (hn : ds.length = cs.length) (hz : ∀ (i : Nat) (x y : AV), cs[i]? = some x → ds[i]? = some y → FrzK b l x y) : FrzK b l (.agg cs) (.agg ds)
  | fn (f : Fn) (a c a' c' : List AV) (hn : a'.length = a.length) (hn' : c'.length = c.length) (h1 : ∀ (i : Nat) (x y : AV), a[i]? = some x → a'[i]? = some y → FrzK b l x y)
      (h2 : ∀ (i : Nat) (x y : AV), c[i]? = some x → c'[i]? = some y → FrzK b l x y) : FrzK b l (.fn f a c) (.fn f a' c')

theorem FrzK.rel {e : Emb} {w : World} {b : Nat} {l : List AV} (hH : HRel e H w) (hb : H.get b = some (.cells l)) {x y : AV} (h : FrzK b l x y) : ∀ u, VRel e w x u → VRel (e.kill b) w y u := by
  have hno : ∀ {c : Nat}, e.map b = some c → ¬ (e.kill b).hits c := by
    rintro c hm ⟨b', q1, q2⟩
    rw [kill_map] at q1
    rw [kill_live] at q2
    split at q2
    · cases q2
    · rename_i hne
      exact hne (hH.inj b' b c q1 hm q2 (hH.obj b _ c hb hm).1)
  induction h with
  | keep x => intro u hu; exact hu.evo (Evo.kill e w b)
  | slc off es len lo ex cs hl hcs =>
    intro u hu
    cases hu with
    | slc _ _ _ _ _ _ c k hm hl' hlo hcap ws t fr hw hs =>
    obtain ⟨_, ws', t', h1, h2⟩ := hH.obj b _ c hb hm
    rw [hw] at h1
    injection h1 with h1
    injection h1 with h1 _ _
    subst h1
    have hget : ∀ i, i < cs.length → ∃ u x, ws[off + i]? = some u ∧ l[off + i]? = some x ∧ cs[i]? = some x ∧ VRel e w x u := fun i hi => by
      have hx := List.getElem?_eq_getElem (l := l) (i := off + i) (by omega)
      obtain ⟨u, h3, h4⟩ := h2 (off + i) _ hx
      refine ⟨u, _, h3, hx, ?_, h4⟩
      have := congrArg (fun q => q[i]?) hcs
      simp only [List.getElem?_take, if_pos hi, List.getElem?_drop] at this
      exact this.trans hx
    refine .ro len lo ex cs ⟨c, off, none⟩ k ((List.range cs.length).map fun i => ws.getD (off + i) undef) hl' hlo hcap (by simp) (fun i u hu => ⟨?_, hno hm⟩) (fun i y u hy hu => ?_)
    · simp only [List.getElem?_map, Option.map_eq_some_iff] at hu
      obtain ⟨j, hj, rfl⟩ := hu
      rw [List.getElem?_eq_some_iff] at hj
      obtain ⟨hj1, hj2⟩ := hj
      simp at hj1 hj2
      subst hj2
      obtain ⟨u, x, h3, _⟩ := hget i hj1
      rw [addr_add_plain]
      unfold World.cell?
      simp only [hw]
      rw [Array.getD_eq_getD_getElem?, h3]
      rfl
    · simp only [List.getElem?_map, Option.map_eq_some_iff] at hu
      obtain ⟨j, hj, rfl⟩ := hu
      rw [List.getElem?_eq_some_iff] at hj
      obtain ⟨hj1, hj2⟩ := hj
      simp at hj1 hj2
      subst hj2
      obtain ⟨u, x, h3, hx, hcx, h4⟩ := hget i hj1
      rw [Array.getD_eq_getD_getElem?, h3]
      rw [hcx] at hy
      injection hy with hy
      subst hy
      exact h4.evo (Evo.kill e w b)
  | ptr off =>
    intro u hu
    cases hu with
    | ptr _ _ c hm =>
    obtain ⟨_, ws, t, h1, h2⟩ := hH.obj b _ c hb hm
    have key : (⟨c, 0, none⟩ : Addr).add off = ⟨c, off, none⟩ := by rw [addr_add_plain, Nat.zero_add]
    rw [← key]
    refine .rop l off ⟨c, 0, none⟩ ((List.range l.length).map fun i => ws.getD i undef) (by simp) (fun i u hu => ⟨?_, hno hm⟩) (fun i y u hy hu => ?_)
    · simp only [List.getElem?_map, Option.map_eq_some_iff] at hu
      obtain ⟨j, hj, rfl⟩ := hu
      rw [List.getElem?_eq_some_iff] at hj
      obtain ⟨hj1, hj2⟩ := hj
      simp at hj1 hj2
      subst hj2
      obtain ⟨u, h3, h4⟩ := h2 i _ (List.getElem?_eq_getElem hj1)
      rw [addr_add_plain, Nat.zero_add]
      unfold World.cell?
      simp only [h1]
      rw [Array.getD_eq_getD_getElem?, h3]
      rfl
    · simp only [List.getElem?_map, Option.map_eq_some_iff] at hu
      obtain ⟨j, hj, rfl⟩ := hu
      rw [List.getElem?_eq_some_iff] at hj
      obtain ⟨hj1, hj2⟩ := hj
      simp at hj1 hj2
      subst hj2
      obtain ⟨u, h3, h4⟩ := h2 i y hy
      rw [Array.getD_eq_getD_getElem?, h3]
      exact h4.evo (Evo.kill e w b)
  | ro len lo ex cs ds hn hz ih =>
    intro u hu
    cases hu with
    | ro _ _ _ _ a k us hl hlo hcap hn' hs hr =>
      refine .ro len lo ex ds a k us hl hlo hcap (by omega) (fun i u hu => ⟨(hs i u hu).1, fun ⟨b', q1, q2⟩ => (hs i u hu).2 ⟨b', q1, ?_⟩⟩) fun i y u hy hu => ?_
      · rw [kill_live] at q2
        split at q2
        · cases q2
        · exact q2
      · have hi : i < cs.length := by rw [← hn]; exact (List.getElem?_eq_some_iff.1 hy).1
        exact ih i _ y (List.getElem?_eq_getElem hi) hy u (hr i _ u (List.getElem?_eq_getElem hi) hu)
  | agg cs ds hn hz ih =>
    intro u hu
    cases hu with
    | agg _ us hn' hr =>
      refine .agg ds us (by omega) fun i y u hy hu => ?_
      have hi : i < cs.length := by rw [← hn]; exact (List.getElem?_eq_some_iff.1 hy).1
      exact ih i _ y (List.getElem?_eq_getElem hi) hy u (hr i _ u (List.getElem?_eq_getElem hi) hu)
  | fn f a c a' c' hn hn' h1 h2 ih1 ih2 =>
    intro u hu
    cases hu with
    | fn _ _ _ fs cs hf hc k1 k2 =>
      refine .fn f a' c' fs cs (by omega) (by omega) (fun i y u hy hu => ?_) (fun i y u hy hu => ?_)
      · have hi : i < a.length := by rw [← hn]; exact (List.getElem?_eq_some_iff.1 hy).1
        exact ih1 i _ y (List.getElem?_eq_getElem hi) hy u (k1 i _ u (List.getElem?_eq_getElem hi) hu)
      · have hi : i < c.length := by rw [← hn']; exact (List.getElem?_eq_some_iff.1 hy).1
        exact ih2 i _ y (List.getElem?_eq_getElem hi) hy u (k2 i _ u (List.getElem?_eq_getElem hi) hu)

theorem SCall.give {f : FuncId} {args args' : List AV} {R : AV → AHeap → Prop} {b : Nat} {l : List AV} (hb : H.get b = some (.cells l)) (hn : args'.length = args.length)
    (hz : ∀ (i : Nat) (x y : AV), args[i]? = some x → args'[i]? = some y → FrzK b l x y) (h : SCall P f args' (H.kill b) R) : SCall P f args H R := by
  refine ⟨h.1, fun e w us hH hL => (h.2 (e.kill b) w us (hH.kill b) ⟨by rw [hL.1, hn], fun i y u hy hu => ?_⟩).mono fun en w' hp => ?_⟩
  · have hi : i < args.length := by rw [← hn]; exact (List.getElem?_eq_some_iff.1 hy).1
    exact (hz i _ y (List.getElem?_eq_getElem hi) hy).rel hH hb u (hL.2 i _ u (List.getElem?_eq_getElem hi) hu)
  · obtain ⟨u, x, H', e', rfl, h1, h2, h3, h4⟩ := hp
    exact ⟨u, x, H', e', rfl, h1, h2, h3, (Evo.kill e w b).trans h4⟩

/-- Arguments, one by one. -/
inductive FrzKs (b : Nat) (l : List AV) : List AV → List AV → Prop
  | nil : FrzKs b l [] []
  | cons {x y : AV} {xs ys : List AV} (h : FrzK b l x y) (k : FrzKs b l xs ys) : FrzKs b l (x :: xs) (y :: ys)
theorem FrzKs.len {b : Nat} {l xs ys : List AV} (h : FrzKs b l xs ys) : ys.length = xs.length := by
  induction h with
  | nil => rfl
  | cons _ _ ih => simp [ih]
theorem FrzKs.get {b : Nat} {l xs ys : List AV} (h : FrzKs b l xs ys) : ∀ (i : Nat) (x y : AV), xs[i]? = some x → ys[i]? = some y → FrzK b l x y := by
  induction h with
  | nil => intro i x y hx; simp at hx
  | cons h k ih =>
    intro i x y hx hy
    cases i with
    | zero => simp at hx hy; subst hx hy; exact h
    | succ i => exact ih i x y (by simpa using hx) (by simpa using hy)
theorem SCall.gives {f : FuncId} {args args' : List AV} {R : AV → AHeap → Prop} {b : Nat} {l : List AV} (hb : H.get b = some (.cells l)) (hz : FrzKs b l args args') (h : SCall P f args' (H.kill b) R) : SCall P f args H R :=
  h.give hb hz.len hz.get

end
end Go.Proofs.Ytooaiddfokbffaa.E

/- Calls that turn one block. Conditions: none. -/
set_option linter.unusedVariables false
set_option linter.unusedSimpArgs false
namespace Go.Proofs.Ytooaiddfokbffaa.E
open Go
section
variable {P : Program} {H : AHeap}

theorem Ext.put {G : AHeap} {b : Nat} {o o' : AObj} (h : Ext (H.set b o) G) : Ext (H.set b o') (G.set b o') := ⟨h.1, fun x hx => by
  rw [set_get, set_get]
  by_cases hb : x = b
  · rw [if_pos hb, if_pos hb]
  · rw [if_neg hb, if_neg hb]
    have := h.2 x hx
    rwa [set_get, if_neg hb] at this⟩
theorem Ext.at {G : AHeap} {b : Nat} {o : AObj} (h : Ext (H.set b o) G) (hb : b < H.next) : G.get b = some o := by
  rw [h.2 b hb, set_get, if_pos rfl]
theorem cutB {c : ACode} {K M : ASt → Prop} {Q : AExit → ASt → Prop} {st : ASt} (h : swp P c (thenQ M Q) st) (hM : ∀ st', M st' → K st') : swp P c (thenQ K Q) st :=
  swp_mono c h fun x st' hx => by
    cases x with
    | normal => exact hM _ hx
    | ret => exact hx
    | exit id' => exact hx

theorem g_opG {st st' : ASt} {d t : Nat} {b : Bool} {o : AOp} : agO st st' (some (.op (some d) (some (t, b)) o)) = ((abool (st.tm t) == some b) = true → agK st st' d o (okind o)) := by
  apply propext
  simp only [agO, again, gOk]
  cases okind o <;> rfl

/-- What holds behind a block is told first. -/
theorem cutK {c : ACode} {id : Nat} {K M : ASt → Prop} {Q : AExit → ASt → Prop} {st : ASt} (h : swp P c (inBlockQ id (thenQ M Q)) st) (hM : ∀ st', M st' → K st') : swp P c (inBlockQ id (thenQ K Q)) st :=
  swp_mono c h fun x st' hx => by
    cases x with
    | normal => exact hM _ hx
    | ret => exact hx
    | exit id' =>
      simp only [inBlockQ] at hx ⊢
      split
      · rename_i hh; rw [if_pos hh] at hx; exact hM _ hx
      · rename_i hh; rw [if_neg hh] at hx; exact hx

end
end Go.Proofs.Ytooaiddfokbffaa.E

/- Levels, as the code asks them: numbers that are right. Conditions: none. -/
set_option linter.unusedVariables false
set_option linter.unusedSimpArgs false
namespace Go.Proofs.Ytooaiddfokbffaa.E
open Go Go.Proofs
attribute [local go_sem] s_seq s_ops s_draw s_block s_skip s_ret s_exit i_nil i_cons i_run i_runG s_condQ c_true c_false aop ev_t ev_c updO_at updO_no upd_at t_normal t_ret t_exit b_normal b_ret b_exit a_some ac_v ac_agg ac_ptr ac_slc ac_ro ac_rop ac_fn new_next set_next argTm_zero argTm_succ argTm_nil ab_bool ab_uv beq_self_eq_true Option.some_beq_some Bool.not_not beq_iff_eq decide_true decide_false Bool.not_true Bool.not_false afld aload astore apack alen_str alen_ro alen_slc alen_nil new_get set_get ite_true ite_false Option.map_some Option.bind_some ibin isShift Nat.add_zero Nat.zero_add List.length_cons List.length_nil List.drop_zero List.drop_succ_cons List.take_succ_cons List.take_zero if_true if_false setL List.set_cons_zero List.set_cons_succ List.all_cons List.all_nil one_int one_bool one_str one_nil one_ptr one_slc one_ro one_rop one_fn Bool.and_self Bool.and_true true_and and_true and_self Bool.false_eq_true post_ret post_normal resAll resOne packR Option.some.injEq exists_eq_left' List.map_cons List.map_nil List.nil_append List.append_nil List.cons_append d_nil d_cons k_nil k_cons g_op g_same g_new avBlock forall_eq' List.getElem?_cons_succ List.getElem?_cons_zero List.getElem?_nil okind gOk bne false_imp_iff forall_const imp_self implies_true true_imp_iff i_callG

def fineF (n : Int) : Bool := decide (n ≥ 0) && decide (n ≤ 1000)
def rightF (l : Lv) : Bool := fineF l.n && decide (l.vars.length ≤ 64) && l.vars.all fun v => fineF v.1 && fineF v.2

/-- A row of variables, as cells. -/
def varsC (vars : List (Int × Int)) : List AV := vars.flatMap fun v => [aint v.1, aint v.2]
theorem varsC_cons (v : Int × Int) (r : List (Int × Int)) : varsC (v :: r) = aint v.1 :: aint v.2 :: varsC r := rfl
theorem varsC_append (a b : List (Int × Int)) : varsC (a ++ b) = varsC a ++ varsC b := by simp [varsC]
theorem varsC_length (a : List (Int × Int)) : (varsC a).length = a.length * 2 := by
  induction a with
  | nil => rfl
  | cons v r ih => rw [varsC_cons]; simp only [List.length_cons, ih]; omega
theorem varsR_pre : ∀ (vars : List (Int × Int)) (x : List AV), VarsR vars (varsC vars ++ x)
  | [], x => trivial
  | (a, b) :: r, x => by
    simp only [VarsR, varsC_cons, List.cons_append, List.take_succ_cons, List.take_zero, List.drop_succ_cons, List.drop_zero, true_and]
    exact varsR_pre r x
theorem varsR_self (vars : List (Int × Int)) : VarsR vars (varsC vars) := by
  have := varsR_pre vars []
  rwa [List.append_nil] at this
theorem VarsR.pre : ∀ {vars : List (Int × Int)} {cs : List AV}, VarsR vars cs → cs.take (vars.length * 2) = varsC vars
  | [], _, _ => by simp [varsC]
  | (a, b) :: r, cs, h => by
    simp only [VarsR] at h
    have := VarsR.pre h.2
    rw [show ((a, b) :: r).length * 2 = 2 + r.length * 2 by simp; omega, List.take_add, h.1, this]
    rfl
theorem VarsR.len {vars : List (Int × Int)} {cs : List AV} (h : VarsR vars cs) : vars.length * 2 ≤ cs.length := by
  have := congrArg List.length h.pre
  rw [List.length_take, varsC_length] at this
  omega
theorem VarsR.at {vars : List (Int × Int)} {cs : List AV} (h : VarsR vars cs) {i : Nat} (hi : i < vars.length) : i * 2 + 2 ≤ cs.length ∧ (cs.drop (i * 2)).take 2 = [aint vars[i].1, aint vars[i].2] := by
  induction vars generalizing cs i with
  | nil => cases hi
  | cons v r ih =>
    have hl := h.len
    obtain ⟨a, b⟩ := v
    simp only [VarsR] at h
    simp only [List.length_cons] at hl hi
    cases i with
    | zero => exact ⟨by omega, by simpa using h.1⟩
    | succ i =>
      obtain ⟨h1, h2⟩ := ih h.2 (i := i) (by omega)
      rw [List.drop_drop] at h2
      rw [List.length_drop] at h1
      exact ⟨by omega, by rw [show (i + 1) * 2 = 2 + i * 2 by omega]; simpa using h2⟩

set_option maxRecDepth 100000 in
theorem fine_ok (n : Int) (H : AHeap) : SCall Try.prog 200 [aint n] H fun x H' => x = abl (fineF n) ∧ H' = H := by
  refine SCall.intro mixed cf200 ?_
  by_cases h1 : n ≥ 0
  · simp -implicitDefEqProofs only [c200, go_sem, Nat.reduceEqDiff, Nat.reduceAdd, Nat.reduceLeDiff, ↓reduceIte, reduceCtorEq, Int.reduceBEq, Int.reduceBNe, Int.reduceLT, Int.reduceLE, Int.reduceGT, Int.reduceGE, Int.reduceNeg, Int.reduceAdd, Int.reduceSub, Nat.reduceMul, Nat.reduceLT, Int.reduceToNat, h1]
    simp [fineF, h1]
  · simp -implicitDefEqProofs only [c200, go_sem, Nat.reduceEqDiff, Nat.reduceAdd, Nat.reduceLeDiff, ↓reduceIte, reduceCtorEq, Int.reduceBEq, Int.reduceBNe, Int.reduceLT, Int.reduceLE, Int.reduceGT, Int.reduceGE, Int.reduceNeg, Int.reduceAdd, Int.reduceSub, Nat.reduceMul, Nat.reduceLT, Int.reduceToNat, h1]
    simp [fineF, h1]

set_option maxRecDepth 100000 in
theorem number_ok (a b : Int) (H : AHeap) : SCall Try.prog 203 [.agg [aint a, aint b]] H fun x H' => x = aint a ∧ H' = H := by
  refine SCall.val (SCall.intro mixed cf203 ?_)
  simp -implicitDefEqProofs only [c203, go_sem, Nat.reduceEqDiff, Nat.reduceAdd, Nat.reduceLeDiff, ↓reduceIte, reduceCtorEq, Int.reduceBEq, Int.reduceBNe, Int.reduceLT, Int.reduceLE, Int.reduceGT, Int.reduceGE, Int.reduceNeg, Int.reduceAdd, Int.reduceSub, Nat.reduceMul, Nat.reduceLT, Int.reduceToNat]
  exact (Ext.refl H).new _

def greaterF (x y : Int × Int) : Int × Int := if x.2 < y.2 then y else x

set_option maxRecDepth 100000 in
theorem greater_ok (x y : Int × Int) (H : AHeap) : SCall Try.prog 204 [.agg [aint x.1, aint x.2], .agg [aint y.1, aint y.2]] H fun z H' => z = .agg [aint (greaterF x y).1, aint (greaterF x y).2] ∧ H' = H := by
  refine SCall.valO (.agg _ fun z hz => by simp at hz; rcases hz with rfl | rfl <;> exact .v _) (SCall.intro mixed cf204 ?_)
  have e1 : ¬ H.next + 1 + 1 = H.next := by omega
  have e2 : ¬ H.next + 1 = H.next := by omega
  have e3 : ¬ H.next = H.next + 1 := by omega
  have e4 : ¬ H.next = H.next + 1 + 1 := by omega
  have e5 : ¬ H.next + 1 = H.next + 1 + 1 := by omega
  have e6 : ¬ H.next + 1 + 1 = H.next + 1 := by omega
  by_cases h1 : x.2 < y.2
  · simp -implicitDefEqProofs only [c204, go_sem, Nat.reduceEqDiff, Nat.reduceAdd, Nat.reduceLeDiff, ↓reduceIte, reduceCtorEq, Int.reduceBEq, Int.reduceBNe, Int.reduceLT, Int.reduceLE, Int.reduceGT, Int.reduceGE, Int.reduceNeg, Int.reduceAdd, Int.reduceSub, Nat.reduceMul, Nat.reduceLT, Int.reduceToNat, h1, e1, e2, e3, e4, e5, e6]
    exact ⟨by simp [greaterF, h1], ((((Ext.refl H).new _).new _).new _).set (by omega) _⟩
  · simp -implicitDefEqProofs only [c204, go_sem, Nat.reduceEqDiff, Nat.reduceAdd, Nat.reduceLeDiff, ↓reduceIte, reduceCtorEq, Int.reduceBEq, Int.reduceBNe, Int.reduceLT, Int.reduceLE, Int.reduceGT, Int.reduceGE, Int.reduceNeg, Int.reduceAdd, Int.reduceSub, Nat.reduceMul, Nat.reduceLT, Int.reduceToNat, h1, e1, e2, e3, e4, e5, e6]
    exact ⟨by simp [greaterF, h1], ((((Ext.refl H).new _).new _).new _).set (by omega) _⟩

set_option maxRecDepth 100000 in
theorem right_ok (l : Lv) (vx : AV) (vs : List AV) (h1 : SlR l.vars.length vx vs) (h2 : VarsR l.vars vs) (hn : l.vars.length ≤ 4611686018427387904) (H : AHeap) :
    SCall Try.prog 179 [.agg [aint l.n, vx]] H fun x H' => x = abl (rightF l) ∧ H' = H := by
  refine SCall.val (SCall.intro mixed cf179 ?_)
  simp -implicitDefEqProofs only [c179, go_sem, Nat.reduceEqDiff, Nat.reduceAdd, Nat.reduceLeDiff, ↓reduceIte, reduceCtorEq, Int.reduceBEq, Int.reduceBNe, Int.reduceLT, Int.reduceLE, Int.reduceGT, Int.reduceGE, Int.reduceNeg, Int.reduceAdd, Int.reduceSub, Nat.reduceMul, Nat.reduceLT, Int.reduceToNat, h1.one, h1.cells, fun H => h1.alen H]
  refine i_callA (fs := []) (cs := []) ?_ ?_ (fine_ok l.n _) ?_
  · rfl
  · simp -implicitDefEqProofs only [go_sem, Nat.reduceEqDiff, Nat.reduceAdd, Nat.reduceLeDiff, ↓reduceIte, reduceCtorEq, Int.reduceBEq, Int.reduceBNe, Int.reduceLT, Int.reduceLE, Int.reduceGT, Int.reduceGE, Int.reduceNeg, Int.reduceAdd, Int.reduceSub, Nat.reduceMul, Nat.reduceLT, Int.reduceToNat]
  rintro x H3 ⟨rfl, rfl⟩
  cases hf : fineF l.n with
  | false =>
    simp -implicitDefEqProofs only [go_sem, Nat.reduceEqDiff, Nat.reduceAdd, Nat.reduceLeDiff, ↓reduceIte, reduceCtorEq, Int.reduceBEq, Int.reduceBNe, Int.reduceLT, Int.reduceLE, Int.reduceGT, Int.reduceGE, Int.reduceNeg, Int.reduceAdd, Int.reduceSub, Nat.reduceMul, Nat.reduceLT, Int.reduceToNat]
    exact ⟨by simp [rightF, hf], (Ext.refl H).new _⟩
  | true =>
  by_cases h64 : (l.vars.length : Int) > 64
  · simp -implicitDefEqProofs only [go_sem, Nat.reduceEqDiff, Nat.reduceAdd, Nat.reduceLeDiff, ↓reduceIte, reduceCtorEq, Int.reduceBEq, Int.reduceBNe, Int.reduceLT, Int.reduceLE, Int.reduceGT, Int.reduceGE, Int.reduceNeg, Int.reduceAdd, Int.reduceSub, Nat.reduceMul, Nat.reduceLT, Int.reduceToNat, fun H => h1.alen H, h64]
    exact ⟨by simp [rightF, hf]; omega, (Ext.refl H).new _⟩
  have hR : rightF l = l.vars.all fun v => fineF v.1 && fineF v.2 := by
    simp only [rightF, hf, Bool.true_and]
    rw [decide_eq_true (by omega), Bool.true_and]
  simp -implicitDefEqProofs only [go_sem, Nat.reduceEqDiff, Nat.reduceAdd, Nat.reduceLeDiff, ↓reduceIte, reduceCtorEq, Int.reduceBEq, Int.reduceBNe, Int.reduceLT, Int.reduceLE, Int.reduceGT, Int.reduceGE, Int.reduceNeg, Int.reduceAdd, Int.reduceSub, Nat.reduceMul, Nat.reduceLT, Int.reduceToNat, fun H => h1.alen H, h64]
  refine swp_range l.vars.length (fun i st => st.tm 16 = vx ∧ st.tm 17 = aint l.vars.length ∧ st.tm 18 = aint i ∧ Ext H st.heap ∧ rightF l = (l.vars.drop i).all fun v => fineF v.1 && fineF v.2) ?_ ?_ ?_
  · exact ⟨rfl, rfl, rfl, (Ext.refl H).new _, by rw [hR]; rfl⟩
  · rintro i ⟨tm, H2⟩ hi ⟨h16, h17, h18, hE, hr⟩
    simp only at h16 h17 h18 hE
    have hltI : (i : Int) < (l.vars.length : Int) := by omega
    have hix := h1.aix 2 hi
    obtain ⟨hle, hld⟩ := h2.at hi
    have w3 : IntKind.i64.wrap ((i : Int) + 1) = (i : Int) + 1 := i64_ok _ (by omega)
    have hdrop : l.vars.drop i = l.vars[i] :: l.vars.drop (i + 1) := List.drop_eq_getElem_cons hi
    rw [hdrop, List.all_cons] at hr
    simp -implicitDefEqProofs only [go_sem, Nat.reduceEqDiff, Nat.reduceAdd, Nat.reduceLeDiff, ↓reduceIte, reduceCtorEq, Int.reduceBEq, Int.reduceBNe, Int.reduceLT, Int.reduceLE, Int.reduceGT, Int.reduceGE, Int.reduceNeg, Int.reduceAdd, Int.reduceSub, Nat.reduceMul, Nat.reduceLT, Int.reduceToNat, h16, h17, h18, hltI, hix, hle, hld]
    refine i_callA (fs := []) (cs := []) ?_ ?_ (fine_ok l.vars[i].1 _) ?_
    · rfl
    · simp -implicitDefEqProofs only [go_sem, Nat.reduceEqDiff, Nat.reduceAdd, Nat.reduceLeDiff, ↓reduceIte, reduceCtorEq, Int.reduceBEq, Int.reduceBNe, Int.reduceLT, Int.reduceLE, Int.reduceGT, Int.reduceGE, Int.reduceNeg, Int.reduceAdd, Int.reduceSub, Nat.reduceMul, Nat.reduceLT, Int.reduceToNat]
    rintro x H3 ⟨rfl, rfl⟩
    cases hf1 : fineF l.vars[i].1 with
    | false =>
      simp -implicitDefEqProofs only [go_sem, Nat.reduceEqDiff, Nat.reduceAdd, Nat.reduceLeDiff, ↓reduceIte, reduceCtorEq, Int.reduceBEq, Int.reduceBNe, Int.reduceLT, Int.reduceLE, Int.reduceGT, Int.reduceGE, Int.reduceNeg, Int.reduceAdd, Int.reduceSub, Nat.reduceMul, Nat.reduceLT, Int.reduceToNat]
      exact ⟨by rw [hr, hf1]; rfl, (hE.new _).set hE.1 _⟩
    | true =>
    simp -implicitDefEqProofs only [go_sem, Nat.reduceEqDiff, Nat.reduceAdd, Nat.reduceLeDiff, ↓reduceIte, reduceCtorEq, Int.reduceBEq, Int.reduceBNe, Int.reduceLT, Int.reduceLE, Int.reduceGT, Int.reduceGE, Int.reduceNeg, Int.reduceAdd, Int.reduceSub, Nat.reduceMul, Nat.reduceLT, Int.reduceToNat]
    refine i_callA (fs := []) (cs := []) ?_ ?_ (fine_ok l.vars[i].2 _) ?_
    · rfl
    · simp -implicitDefEqProofs only [go_sem, Nat.reduceEqDiff, Nat.reduceAdd, Nat.reduceLeDiff, ↓reduceIte, reduceCtorEq, Int.reduceBEq, Int.reduceBNe, Int.reduceLT, Int.reduceLE, Int.reduceGT, Int.reduceGE, Int.reduceNeg, Int.reduceAdd, Int.reduceSub, Nat.reduceMul, Nat.reduceLT, Int.reduceToNat]
    rintro x H3 ⟨rfl, rfl⟩
    cases hf2 : fineF l.vars[i].2 with
    | false =>
      simp -implicitDefEqProofs only [go_sem, Nat.reduceEqDiff, Nat.reduceAdd, Nat.reduceLeDiff, ↓reduceIte, reduceCtorEq, Int.reduceBEq, Int.reduceBNe, Int.reduceLT, Int.reduceLE, Int.reduceGT, Int.reduceGE, Int.reduceNeg, Int.reduceAdd, Int.reduceSub, Nat.reduceMul, Nat.reduceLT, Int.reduceToNat]
      exact ⟨by rw [hr, hf1, hf2]; rfl, (hE.new _).set hE.1 _⟩
    | true =>
      simp -implicitDefEqProofs only [go_sem, Nat.reduceEqDiff, Nat.reduceAdd, Nat.reduceLeDiff, ↓reduceIte, reduceCtorEq, Int.reduceBEq, Int.reduceBNe, Int.reduceLT, Int.reduceLE, Int.reduceGT, Int.reduceGE, Int.reduceNeg, Int.reduceAdd, Int.reduceSub, Nat.reduceMul, Nat.reduceLT, Int.reduceToNat, h18, w3]
      exact ⟨h16, h17, by simp, (hE.new _).set hE.1 _, by rw [hr, hf1, hf2]; rfl⟩
  · rintro ⟨tm, H2⟩ ⟨h16, h17, h18, hE, hr⟩
    simp only at h16 h17 h18 hE
    simp -implicitDefEqProofs only [go_sem, Nat.reduceEqDiff, Nat.reduceAdd, Nat.reduceLeDiff, ↓reduceIte, reduceCtorEq, Int.reduceBEq, Int.reduceBNe, Int.reduceLT, Int.reduceLE, Int.reduceGT, Int.reduceGE, Int.reduceNeg, Int.reduceAdd, Int.reduceSub, Nat.reduceMul, Nat.reduceLT, Int.reduceToNat, h16, h17, h18, Int.lt_irrefl]
    exact ⟨by rw [hr]; simp, hE⟩

set_option maxRecDepth 100000 in
theorem equal_ok (a b : List (Int × Int)) (ax bx : AV) (ca cb : List AV) (ha : SlR a.length ax ca) (ha' : VarsR a ca) (hb : SlR b.length bx cb) (hb' : VarsR b cb) (hn : a.length ≤ 4611686018427387904) (H : AHeap) :
    SCall Try.prog 176 [ax, bx] H fun x H' => x = abl (decide (a = b)) ∧ H' = H := by
  refine SCall.val (SCall.intro mixed cf176 ?_)
  by_cases hl : a.length = b.length
  case neg =>
    have h1 : ((a.length : Int) == (b.length : Int)) = false := by rw [beq_eq_false_iff_ne]; omega
    simp -implicitDefEqProofs only [c176, go_sem, Nat.reduceEqDiff, Nat.reduceAdd, Nat.reduceLeDiff, ↓reduceIte, reduceCtorEq, Int.reduceBEq, Int.reduceBNe, Int.reduceLT, Int.reduceLE, Int.reduceGT, Int.reduceGE, Int.reduceNeg, Int.reduceAdd, Int.reduceSub, Nat.reduceMul, Nat.reduceLT, Int.reduceToNat, fun H => ha.alen H, fun H => hb.alen H, h1]
    exact ⟨by rw [decide_eq_false]; intro h; rw [h] at hl; exact hl rfl, Ext.refl H⟩
  have h1 : ((a.length : Int) == (b.length : Int)) = true := by rw [beq_iff_eq]; omega
  simp -implicitDefEqProofs only [c176, go_sem, Nat.reduceEqDiff, Nat.reduceAdd, Nat.reduceLeDiff, ↓reduceIte, reduceCtorEq, Int.reduceBEq, Int.reduceBNe, Int.reduceLT, Int.reduceLE, Int.reduceGT, Int.reduceGE, Int.reduceNeg, Int.reduceAdd, Int.reduceSub, Nat.reduceMul, Nat.reduceLT, Int.reduceToNat, fun H => ha.alen H, fun H => hb.alen H, h1]
  refine swp_range a.length (fun i st => st.tm 0 = ax ∧ st.tm 1 = bx ∧ st.tm 12 = aint a.length ∧ st.tm 13 = aint i ∧ Ext H st.heap ∧ (a = b ↔ a.drop i = b.drop i)) ?_ ?_ ?_
  · exact ⟨rfl, rfl, rfl, rfl, Ext.refl H, by simp⟩
  · rintro i ⟨tm, H2⟩ hi ⟨h0, h1', h12, h13, hE, hr⟩
    simp only at h0 h1' h12 h13 hE
    have hltI : (i : Int) < (a.length : Int) := by omega
    have hix := ha.aix 2 hi
    have hix' := hb.aix 2 (i := i) (by omega)
    obtain ⟨hle, hld⟩ := ha'.at hi
    obtain ⟨hle', hld'⟩ := hb'.at (i := i) (by omega)
    have w3 : IntKind.i64.wrap ((i : Int) + 1) = (i : Int) + 1 := i64_ok _ (by omega)
    have hdrop : a.drop i = a[i] :: a.drop (i + 1) := List.drop_eq_getElem_cons hi
    have hdrop' : b.drop i = b[i] :: b.drop (i + 1) := List.drop_eq_getElem_cons (by omega)
    rw [hdrop, hdrop'] at hr
    by_cases he : a[i] = b[i]
    · have e1 : (a[i].1 == b[i].1) = true := by rw [he]; simp
      have e2 : (a[i].2 == b[i].2) = true := by rw [he]; simp
      simp -implicitDefEqProofs only [go_sem, Nat.reduceEqDiff, Nat.reduceAdd, Nat.reduceLeDiff, ↓reduceIte, reduceCtorEq, Int.reduceBEq, Int.reduceBNe, Int.reduceLT, Int.reduceLE, Int.reduceGT, Int.reduceGE, Int.reduceNeg, Int.reduceAdd, Int.reduceSub, Nat.reduceMul, Nat.reduceLT, Int.reduceToNat, h0, h1', h12, h13, hltI, hix, hix', hle, hld, hle', hld', aeqs, e1, e2, w3]
      exact ⟨by simp, hE, by rw [hr, he, List.cons.injEq]; simp⟩
    · have e1 : (a[i].1 == b[i].1 && a[i].2 == b[i].2) = false := by
        rw [Bool.eq_false_iff]
        intro hh
        simp only [Bool.and_eq_true, beq_iff_eq] at hh
        exact he (Prod.ext hh.1 hh.2)
      simp -implicitDefEqProofs only [go_sem, Nat.reduceEqDiff, Nat.reduceAdd, Nat.reduceLeDiff, ↓reduceIte, reduceCtorEq, Int.reduceBEq, Int.reduceBNe, Int.reduceLT, Int.reduceLE, Int.reduceGT, Int.reduceGE, Int.reduceNeg, Int.reduceAdd, Int.reduceSub, Nat.reduceMul, Nat.reduceLT, Int.reduceToNat, h0, h1', h12, h13, hltI, hix, hix', hle, hld, hle', hld', aeqs, e1, w3]
      exact ⟨by rw [decide_eq_false]; intro h; exact he (List.cons.inj (hr.1 h)).1, hE⟩
  · rintro ⟨tm, H2⟩ ⟨h0, h1', h12, h13, hE, hr⟩
    simp only at h0 h1' h12 h13 hE
    simp -implicitDefEqProofs only [go_sem, Nat.reduceEqDiff, Nat.reduceAdd, Nat.reduceLeDiff, ↓reduceIte, reduceCtorEq, Int.reduceBEq, Int.reduceBNe, Int.reduceLT, Int.reduceLE, Int.reduceGT, Int.reduceGE, Int.reduceNeg, Int.reduceAdd, Int.reduceSub, Nat.reduceMul, Nat.reduceLT, Int.reduceToNat, h12, h13, Int.lt_irrefl]
    exact ⟨by rw [decide_eq_true]; rw [hr, List.drop_length, hl, List.drop_length], hE⟩
end Go.Proofs.Ytooaiddfokbffaa.E
