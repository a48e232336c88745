/- Whether a term is not too long nor too high, as the code asks it. Conditions: none. -/
import Derived.Test.YtooaiddfokbffaaT1
import Derived.Test.YtooaiddfokbffaaCLT
set_option linter.unusedVariables false
set_option linter.unusedSimpArgs false
namespace Go.Proofs.Ytooaiddfokbffaa.E
open Go Go.Proofs

theorem mixed : Try.prog.follows .mixedOrders = true := by kernel_rfl

theorem i64_ok (n : Int) (h : -9223372036854775808 ≤ n ∧ n ≤ 9223372036854775807) : IntKind.i64.wrap n = n := by rw [IntKind.wrap_i64]; omega

mutual
theorem Tm.rule {p : Tm → Prop} (h : ∀ f n hd s lv ks, (∀ k ∈ ks, p k) → p (.mk f n hd s lv ks)) : ∀ t, p t
  | .mk f n hd s lv ks => h f n hd s lv ks (Tm.ruleL h ks)
theorem Tm.ruleL {p : Tm → Prop} (h : ∀ f n hd s lv ks, (∀ k ∈ ks, p k) → p (.mk f n hd s lv ks)) : ∀ (ks : List Tm), ∀ k ∈ ks, p k
  | [] => fun k hk => by cases hk
  | k0 :: ks => fun k hk => by
    rcases List.mem_cons.1 hk with hk | hk
    · rw [hk]; exact Tm.rule h k0
    · exact Tm.ruleL h ks k hk
end

theorem fit_bound : ∀ t, ∀ c high, (fitT c high t).1 = true → c < (fitT c high t).2 ∧ (fitT c high t).2 ≤ 20000 := by
  refine Tm.rule fun f n hd s lv ks ih c high h => ?_
  simp only [fitT] at h ⊢
  split at h
  · cases h
  · rename_i hno
    rw [if_neg hno]
    have hk : ∀ (ks' : List Tm), (∀ k ∈ ks', k ∈ ks) → ∀ c', c' ≤ 20000 → (fitK c' (high + 1) ks').1 = true → c' ≤ (fitK c' (high + 1) ks').2 ∧ (fitK c' (high + 1) ks').2 ≤ 20000 := by
      intro ks'
      induction ks' with
      | nil => intro _ c' hc' _; simp only [fitK]; omega
      | cons k ks' ih' =>
        intro hm c' hc' h
        simp only [fitK] at h ⊢
        split at h
        · rename_i h1
          rw [if_pos h1]
          obtain ⟨h2, h3⟩ := ih k (hm k (List.mem_cons_self ..)) c' (high + 1) h1
          obtain ⟨h4, h5⟩ := ih' (fun k hk => hm k (List.mem_cons_of_mem _ hk)) _ h3 h
          omega
        · cases h
    obtain ⟨h1, h2⟩ := hk ks (fun _ h => h) (c + 1) (by omega) h
    omega

set_option maxRecDepth 100000 in
theorem fits_ok : ∀ t, ∀ (cells : List AV), TmR t cells → ∀ (c high : Int), 0 ≤ c ∧ c ≤ 20000 → 0 ≤ high ∧ high ≤ 501 → ∀ (H : AHeap) (b : Nat), H.get b = some (.cells [aint c]) → b < H.next →
    SCall Try.prog 81 [.ptr b 0, .agg cells, aint high] H fun x H' => x = abl (fitT c high t).1 ∧ H' = H.set b (.cells [aint (fitT c high t).2]) := by
  refine Tm.rule fun f n hid s lv ks ih cells hT c high hc hh H b hb hbn => ?_
  simp only [TmR] at hT
  obtain ⟨lx, kx, ls, cs, rfl, hlx, hls, hkx, hks⟩ := hT
  have hne : b ≠ H.next := Nat.ne_of_lt hbn
  have hne' : ¬ H.next = b := fun h => hne h.symm
  have w1 : IntKind.i64.wrap (c + 1) = c + 1 := i64_ok _ (by omega)
  have main : SCall Try.prog 81 [.ptr b 0, .agg [aint f, aint n, abl hid, .v (.string s), lx, kx], aint high] H fun x H' => x = abl (fitT c high (.mk f n hid s lv ks)).1 ∧ H.next ≤ H'.next ∧
      ∀ b', b' < H.next → H'.get b' = (H.set b (.cells [aint (fitT c high (.mk f n hid s lv ks)).2])).get b' := by
    refine SCall.intro mixed cf81 ?_
    by_cases h1 : c + 1 > 20000
    · simp -implicitDefEqProofs only [c81, s_seq, s_ops, s_draw, s_block, s_skip, s_ret, s_exit, i_nil, i_cons, i_run, i_runG, s_condQ, c_true, c_false, aop, ev_t, ev_c, updO_at, updO_no, upd_at, t_normal, t_ret, t_exit, b_normal, b_ret, b_exit, a_some, ac_v, ac_agg, ac_ptr, ac_slc, ac_ro, ac_rop, ac_fn, new_next, set_next, argTm_zero, argTm_succ, argTm_nil, ab_bool, ab_uv, beq_self_eq_true, Option.some_beq_some, Bool.not_not, beq_iff_eq, decide_true, decide_false, Bool.not_true, Bool.not_false, afld, aload, astore, apack, alen_str, alen_ro, alen_slc, alen_nil, new_get, set_get, ite_true, ite_false, Option.map_some, Option.bind_some, ibin, isShift, Nat.reduceEqDiff, Nat.add_zero, Nat.zero_add, List.length_cons, List.length_nil, Nat.reduceAdd, Nat.reduceLeDiff, List.drop_zero, List.drop_succ_cons, List.take_succ_cons, List.take_zero, if_true, if_false, ↓reduceIte, reduceCtorEq, setL, List.set_cons_zero, List.set_cons_succ, List.all_cons, List.all_nil, one_int, one_bool, one_str, one_nil, one_ptr, one_slc, one_ro, one_rop, one_fn, Bool.and_self, Bool.and_true, true_and, and_true, and_self, Bool.false_eq_true, post_ret, post_normal, resAll, resOne, packR, Option.some.injEq, exists_eq_left', List.map_cons, List.map_nil, List.nil_append, List.append_nil, List.cons_append, d_nil, d_cons, k_nil, k_cons, g_op, g_same, g_new, avBlock, forall_eq', List.getElem?_cons_succ, List.getElem?_cons_zero, List.getElem?_nil, okind, gOk, Int.reduceBEq, Int.reduceBNe, Int.reduceLT, Int.reduceLE, Int.reduceGT, Int.reduceGE, Int.reduceNeg, Int.reduceAdd, Int.reduceSub, bne, false_imp_iff, forall_const, imp_self, implies_true, true_imp_iff, Nat.reduceMul, Nat.reduceLT, Int.reduceToNat, hb, hne, hne', w1, h1, fitT, true_or]
      refine ⟨Nat.le_succ _, fun b' hb' => ?_⟩
      simp only [Nat.ne_of_lt hb', if_false]
    by_cases h2 : high > 500
    · simp -implicitDefEqProofs only [c81, s_seq, s_ops, s_draw, s_block, s_skip, s_ret, s_exit, i_nil, i_cons, i_run, i_runG, s_condQ, c_true, c_false, aop, ev_t, ev_c, updO_at, updO_no, upd_at, t_normal, t_ret, t_exit, b_normal, b_ret, b_exit, a_some, ac_v, ac_agg, ac_ptr, ac_slc, ac_ro, ac_rop, ac_fn, new_next, set_next, argTm_zero, argTm_succ, argTm_nil, ab_bool, ab_uv, beq_self_eq_true, Option.some_beq_some, Bool.not_not, beq_iff_eq, decide_true, decide_false, Bool.not_true, Bool.not_false, afld, aload, astore, apack, alen_str, alen_ro, alen_slc, alen_nil, new_get, set_get, ite_true, ite_false, Option.map_some, Option.bind_some, ibin, isShift, Nat.reduceEqDiff, Nat.add_zero, Nat.zero_add, List.length_cons, List.length_nil, Nat.reduceAdd, Nat.reduceLeDiff, List.drop_zero, List.drop_succ_cons, List.take_succ_cons, List.take_zero, if_true, if_false, ↓reduceIte, reduceCtorEq, setL, List.set_cons_zero, List.set_cons_succ, List.all_cons, List.all_nil, one_int, one_bool, one_str, one_nil, one_ptr, one_slc, one_ro, one_rop, one_fn, Bool.and_self, Bool.and_true, true_and, and_true, and_self, Bool.false_eq_true, post_ret, post_normal, resAll, resOne, packR, Option.some.injEq, exists_eq_left', List.map_cons, List.map_nil, List.nil_append, List.append_nil, List.cons_append, d_nil, d_cons, k_nil, k_cons, g_op, g_same, g_new, avBlock, forall_eq', List.getElem?_cons_succ, List.getElem?_cons_zero, List.getElem?_nil, okind, gOk, Int.reduceBEq, Int.reduceBNe, Int.reduceLT, Int.reduceLE, Int.reduceGT, Int.reduceGE, Int.reduceNeg, Int.reduceAdd, Int.reduceSub, bne, false_imp_iff, forall_const, imp_self, implies_true, true_imp_iff, Nat.reduceMul, Nat.reduceLT, Int.reduceToNat, hb, hne, hne', w1, h1, h2, fitT, or_true]
      refine ⟨Nat.le_succ _, fun b' hb' => ?_⟩
      simp only [Nat.ne_of_lt hb', if_false]
    have hlen := fun H => hkx.alen H
    have hone := hkx.one
    have hcl := hkx.cells
    simp -implicitDefEqProofs only [c81, s_seq, s_ops, s_draw, s_block, s_skip, s_ret, s_exit, i_nil, i_cons, i_run, i_runG, s_condQ, c_true, c_false, aop, ev_t, ev_c, updO_at, updO_no, upd_at, t_normal, t_ret, t_exit, b_normal, b_ret, b_exit, a_some, ac_v, ac_agg, ac_ptr, ac_slc, ac_ro, ac_rop, ac_fn, new_next, set_next, argTm_zero, argTm_succ, argTm_nil, ab_bool, ab_uv, beq_self_eq_true, Option.some_beq_some, Bool.not_not, beq_iff_eq, decide_true, decide_false, Bool.not_true, Bool.not_false, afld, aload, astore, apack, alen_str, alen_ro, alen_slc, alen_nil, new_get, set_get, ite_true, ite_false, Option.map_some, Option.bind_some, ibin, isShift, Nat.reduceEqDiff, Nat.add_zero, Nat.zero_add, List.length_cons, List.length_nil, Nat.reduceAdd, Nat.reduceLeDiff, List.drop_zero, List.drop_succ_cons, List.take_succ_cons, List.take_zero, if_true, if_false, ↓reduceIte, reduceCtorEq, setL, List.set_cons_zero, List.set_cons_succ, List.all_cons, List.all_nil, one_int, one_bool, one_str, one_nil, one_ptr, one_slc, one_ro, one_rop, one_fn, Bool.and_self, Bool.and_true, true_and, and_true, and_self, Bool.false_eq_true, post_ret, post_normal, resAll, resOne, packR, Option.some.injEq, exists_eq_left', List.map_cons, List.map_nil, List.nil_append, List.append_nil, List.cons_append, d_nil, d_cons, k_nil, k_cons, g_op, g_same, g_new, avBlock, forall_eq', List.getElem?_cons_succ, List.getElem?_cons_zero, List.getElem?_nil, okind, gOk, Int.reduceBEq, Int.reduceBNe, Int.reduceLT, Int.reduceLE, Int.reduceGT, Int.reduceGE, Int.reduceNeg, Int.reduceAdd, Int.reduceSub, bne, false_imp_iff, forall_const, imp_self, implies_true, true_imp_iff, Nat.reduceMul, Nat.reduceLT, Int.reduceToNat, hb, hne, hne', w1, h1, h2, fitT, or_self, hlen, hone, hcl]
    refine swp_loop (fun k st => ∃ (i : Nat) (ci : Int), k = ks.length - i ∧ i ≤ ks.length ∧ (i : Int) ≤ ci ∧ ci ≤ 20000 ∧ st.tm 0 = .ptr b 0 ∧ st.tm 2 = aint high ∧ st.tm 26 = kx ∧ st.tm 27 = aint ks.length ∧ st.tm 28 = aint i ∧
      H.next ≤ st.heap.next ∧ (∀ b', b' < H.next → st.heap.get b' = if b' = b then some (.cells [aint ci]) else H.get b') ∧ fitK (c + 1) (high + 1) ks = fitK ci (high + 1) (ks.drop i)) (k := ks.length) ⟨0, c + 1, ?_⟩ ?_
    · refine ⟨by omega, by omega, by omega, by omega, ?_, ?_, ?_, ?_, ?_, ?_, ?_, by simp⟩
      all_goals simp -implicitDefEqProofs only [s_seq, s_ops, s_draw, s_block, s_skip, s_ret, s_exit, i_nil, i_cons, i_run, i_runG, s_condQ, c_true, c_false, aop, ev_t, ev_c, updO_at, updO_no, upd_at, t_normal, t_ret, t_exit, b_normal, b_ret, b_exit, a_some, ac_v, ac_agg, ac_ptr, ac_slc, ac_ro, ac_rop, ac_fn, new_next, set_next, argTm_zero, argTm_succ, argTm_nil, ab_bool, ab_uv, beq_self_eq_true, Option.some_beq_some, Bool.not_not, beq_iff_eq, decide_true, decide_false, Bool.not_true, Bool.not_false, afld, aload, astore, apack, alen_str, alen_ro, alen_slc, alen_nil, new_get, set_get, ite_true, ite_false, Option.map_some, Option.bind_some, ibin, isShift, Nat.reduceEqDiff, Nat.add_zero, Nat.zero_add, List.length_cons, List.length_nil, Nat.reduceAdd, Nat.reduceLeDiff, List.drop_zero, List.drop_succ_cons, List.take_succ_cons, List.take_zero, if_true, if_false, ↓reduceIte, reduceCtorEq, setL, List.set_cons_zero, List.set_cons_succ, List.all_cons, List.all_nil, one_int, one_bool, one_str, one_nil, one_ptr, one_slc, one_ro, one_rop, one_fn, Bool.and_self, Bool.and_true, true_and, and_true, and_self, Bool.false_eq_true, post_ret, post_normal, resAll, resOne, packR, Option.some.injEq, exists_eq_left', List.map_cons, List.map_nil, List.nil_append, List.append_nil, List.cons_append, d_nil, d_cons, k_nil, k_cons, g_op, g_same, g_new, avBlock, forall_eq', List.getElem?_cons_succ, List.getElem?_cons_zero, List.getElem?_nil, okind, gOk, Int.reduceBEq, Int.reduceBNe, Int.reduceLT, Int.reduceLE, Int.reduceGT, Int.reduceGE, Int.reduceNeg, Int.reduceAdd, Int.reduceSub, bne, false_imp_iff, forall_const, imp_self, implies_true, true_imp_iff, Nat.reduceMul, Nat.reduceLT, Int.reduceToNat]
      · rfl
      · exact Nat.le_succ _
      · intro b' hb'
        simp only [Nat.ne_of_lt hb', if_false]
    rintro k ⟨tm, H2⟩ ⟨i, ci, rfl, hi, hic, hci, h0, h2', h26, h27, h28, hnx, hget, hfit⟩
    simp only at h0 h2' h26 h27 h28 hnx hget
    have hb2 : H2.get b = some (.cells [aint ci]) := by rw [hget b hbn, if_pos rfl]
    by_cases hlt : i < ks.length
    · obtain ⟨kc, hkc, hle, hld⟩ := hks.load (List.getElem?_eq_getElem hlt)
      have hix := hkx.aix 6 hlt
      have hdrop : ks.drop i = ks[i] :: ks.drop (i + 1) := List.drop_eq_getElem_cons hlt
      obtain ⟨lx1, kx1, ls1, cs1, hkc6, hl1, hl2, hl3, hl4⟩ := hkc.six
      have hltI : (i : Int) < (ks.length : Int) := by omega
      have w2 : IntKind.i64.wrap (high + 1) = high + 1 := i64_ok _ (by omega)
      have w3 : IntKind.i64.wrap ((i : Int) + 1) = (i : Int) + 1 := i64_ok _ (by omega)
      subst hkc6
      simp -implicitDefEqProofs only [s_seq, s_ops, s_draw, s_block, s_skip, s_ret, s_exit, i_nil, i_cons, i_run, i_runG, s_condQ, c_true, c_false, aop, ev_t, ev_c, updO_at, updO_no, upd_at, t_normal, t_ret, t_exit, b_normal, b_ret, b_exit, a_some, ac_v, ac_agg, ac_ptr, ac_slc, ac_ro, ac_rop, ac_fn, new_next, set_next, argTm_zero, argTm_succ, argTm_nil, ab_bool, ab_uv, beq_self_eq_true, Option.some_beq_some, Bool.not_not, beq_iff_eq, decide_true, decide_false, Bool.not_true, Bool.not_false, afld, aload, astore, apack, alen_str, alen_ro, alen_slc, alen_nil, new_get, set_get, ite_true, ite_false, Option.map_some, Option.bind_some, ibin, isShift, Nat.reduceEqDiff, Nat.add_zero, Nat.zero_add, List.length_cons, List.length_nil, Nat.reduceAdd, Nat.reduceLeDiff, List.drop_zero, List.drop_succ_cons, List.take_succ_cons, List.take_zero, if_true, if_false, ↓reduceIte, reduceCtorEq, setL, List.set_cons_zero, List.set_cons_succ, List.all_cons, List.all_nil, one_int, one_bool, one_str, one_nil, one_ptr, one_slc, one_ro, one_rop, one_fn, Bool.and_self, Bool.and_true, true_and, and_true, and_self, Bool.false_eq_true, post_ret, post_normal, resAll, resOne, packR, Option.some.injEq, exists_eq_left', List.map_cons, List.map_nil, List.nil_append, List.append_nil, List.cons_append, d_nil, d_cons, k_nil, k_cons, g_op, g_same, g_new, avBlock, forall_eq', List.getElem?_cons_succ, List.getElem?_cons_zero, List.getElem?_nil, okind, gOk, Int.reduceBEq, Int.reduceBNe, Int.reduceLT, Int.reduceLE, Int.reduceGT, Int.reduceGE, Int.reduceNeg, Int.reduceAdd, Int.reduceSub, bne, false_imp_iff, forall_const, imp_self, implies_true, true_imp_iff, Nat.reduceMul, Nat.reduceLT, Int.reduceToNat, h0, h2', h26, h27, h28, hltI, hix, hle, hld, hl1.one, hl3.one, hl1.cells, hl3.cells, w2]
      have hbh : b < H2.next := by omega
      have hbe : ¬ b = H2.next := by omega
      refine i_callA (fs := []) (cs := []) ?_ ?_ (ih ks[i] (List.getElem_mem hlt) _ hkc ci (high + 1) (by omega) (by omega) _ b ?_ ?_) ?_
      · rfl
      · simp -implicitDefEqProofs only [s_seq, s_ops, s_draw, s_block, s_skip, s_ret, s_exit, i_nil, i_cons, i_run, i_runG, s_condQ, c_true, c_false, aop, ev_t, ev_c, updO_at, updO_no, upd_at, t_normal, t_ret, t_exit, b_normal, b_ret, b_exit, a_some, ac_v, ac_agg, ac_ptr, ac_slc, ac_ro, ac_rop, ac_fn, new_next, set_next, argTm_zero, argTm_succ, argTm_nil, ab_bool, ab_uv, beq_self_eq_true, Option.some_beq_some, Bool.not_not, beq_iff_eq, decide_true, decide_false, Bool.not_true, Bool.not_false, afld, aload, astore, apack, alen_str, alen_ro, alen_slc, alen_nil, new_get, set_get, ite_true, ite_false, Option.map_some, Option.bind_some, ibin, isShift, Nat.reduceEqDiff, Nat.add_zero, Nat.zero_add, List.length_cons, List.length_nil, Nat.reduceAdd, Nat.reduceLeDiff, List.drop_zero, List.drop_succ_cons, List.take_succ_cons, List.take_zero, if_true, if_false, ↓reduceIte, reduceCtorEq, setL, List.set_cons_zero, List.set_cons_succ, List.all_cons, List.all_nil, one_int, one_bool, one_str, one_nil, one_ptr, one_slc, one_ro, one_rop, one_fn, Bool.and_self, Bool.and_true, true_and, and_true, and_self, Bool.false_eq_true, post_ret, post_normal, resAll, resOne, packR, Option.some.injEq, exists_eq_left', List.map_cons, List.map_nil, List.nil_append, List.append_nil, List.cons_append, d_nil, d_cons, k_nil, k_cons, g_op, g_same, g_new, avBlock, forall_eq', List.getElem?_cons_succ, List.getElem?_cons_zero, List.getElem?_nil, okind, gOk, Int.reduceBEq, Int.reduceBNe, Int.reduceLT, Int.reduceLE, Int.reduceGT, Int.reduceGE, Int.reduceNeg, Int.reduceAdd, Int.reduceSub, bne, false_imp_iff, forall_const, imp_self, implies_true, true_imp_iff, Nat.reduceMul, Nat.reduceLT, Int.reduceToNat, h0, h2', w2]
      · simp only [set_get, new_get, hbe, if_false, hb2]
      · rw [set_next, new_next]; omega
      · rintro x H3 ⟨rfl, rfl⟩
        cases hf1 : (fitT ci (high + 1) ks[i]).1 with
        | true =>
          obtain ⟨hb3, hb4⟩ := fit_bound _ _ _ hf1
          have w3 : IntKind.i64.wrap ((i : Int) + 1) = (i : Int) + 1 := i64_ok _ (by omega)
          simp -implicitDefEqProofs only [s_seq, s_ops, s_draw, s_block, s_skip, s_ret, s_exit, i_nil, i_cons, i_run, i_runG, s_condQ, c_true, c_false, aop, ev_t, ev_c, updO_at, updO_no, upd_at, t_normal, t_ret, t_exit, b_normal, b_ret, b_exit, a_some, ac_v, ac_agg, ac_ptr, ac_slc, ac_ro, ac_rop, ac_fn, new_next, set_next, argTm_zero, argTm_succ, argTm_nil, ab_bool, ab_uv, beq_self_eq_true, Option.some_beq_some, Bool.not_not, beq_iff_eq, decide_true, decide_false, Bool.not_true, Bool.not_false, afld, aload, astore, apack, alen_str, alen_ro, alen_slc, alen_nil, new_get, set_get, ite_true, ite_false, Option.map_some, Option.bind_some, ibin, isShift, Nat.reduceEqDiff, Nat.add_zero, Nat.zero_add, List.length_cons, List.length_nil, Nat.reduceAdd, Nat.reduceLeDiff, List.drop_zero, List.drop_succ_cons, List.take_succ_cons, List.take_zero, if_true, if_false, ↓reduceIte, reduceCtorEq, setL, List.set_cons_zero, List.set_cons_succ, List.all_cons, List.all_nil, one_int, one_bool, one_str, one_nil, one_ptr, one_slc, one_ro, one_rop, one_fn, Bool.and_self, Bool.and_true, true_and, and_true, and_self, Bool.false_eq_true, post_ret, post_normal, resAll, resOne, packR, Option.some.injEq, exists_eq_left', List.map_cons, List.map_nil, List.nil_append, List.append_nil, List.cons_append, d_nil, d_cons, k_nil, k_cons, g_op, g_same, g_new, avBlock, forall_eq', List.getElem?_cons_succ, List.getElem?_cons_zero, List.getElem?_nil, okind, gOk, Int.reduceBEq, Int.reduceBNe, Int.reduceLT, Int.reduceLE, Int.reduceGT, Int.reduceGE, Int.reduceNeg, Int.reduceAdd, Int.reduceSub, bne, false_imp_iff, forall_const, imp_self, implies_true, true_imp_iff, Nat.reduceMul, Nat.reduceLT, Int.reduceToNat, h28, w3]
          refine ⟨ks.length - (i + 1), by omega, i + 1, (fitT ci (high + 1) ks[i]).2, rfl, by omega, by omega, hb4, h0, h2', h26, h27, by simp, by omega, fun b' hb' => ?_, ?_⟩
          · have e1 : ¬ b' = H2.next := by omega
            simp only [e1, if_false]
            by_cases e2 : b' = b
            · rw [if_pos e2, if_pos e2]
            · rw [if_neg e2, if_neg e2, hget b' hb', if_neg e2]
          · rw [hfit, hdrop]
            simp only [fitK, hf1, if_true]
        | false =>
          simp -implicitDefEqProofs only [s_seq, s_ops, s_draw, s_block, s_skip, s_ret, s_exit, i_nil, i_cons, i_run, i_runG, s_condQ, c_true, c_false, aop, ev_t, ev_c, updO_at, updO_no, upd_at, t_normal, t_ret, t_exit, b_normal, b_ret, b_exit, a_some, ac_v, ac_agg, ac_ptr, ac_slc, ac_ro, ac_rop, ac_fn, new_next, set_next, argTm_zero, argTm_succ, argTm_nil, ab_bool, ab_uv, beq_self_eq_true, Option.some_beq_some, Bool.not_not, beq_iff_eq, decide_true, decide_false, Bool.not_true, Bool.not_false, afld, aload, astore, apack, alen_str, alen_ro, alen_slc, alen_nil, new_get, set_get, ite_true, ite_false, Option.map_some, Option.bind_some, ibin, isShift, Nat.reduceEqDiff, Nat.add_zero, Nat.zero_add, List.length_cons, List.length_nil, Nat.reduceAdd, Nat.reduceLeDiff, List.drop_zero, List.drop_succ_cons, List.take_succ_cons, List.take_zero, if_true, if_false, ↓reduceIte, reduceCtorEq, setL, List.set_cons_zero, List.set_cons_succ, List.all_cons, List.all_nil, one_int, one_bool, one_str, one_nil, one_ptr, one_slc, one_ro, one_rop, one_fn, Bool.and_self, Bool.and_true, true_and, and_true, and_self, Bool.false_eq_true, post_ret, post_normal, resAll, resOne, packR, Option.some.injEq, exists_eq_left', List.map_cons, List.map_nil, List.nil_append, List.append_nil, List.cons_append, d_nil, d_cons, k_nil, k_cons, g_op, g_same, g_new, avBlock, forall_eq', List.getElem?_cons_succ, List.getElem?_cons_zero, List.getElem?_nil, okind, gOk, Int.reduceBEq, Int.reduceBNe, Int.reduceLT, Int.reduceLE, Int.reduceGT, Int.reduceGE, Int.reduceNeg, Int.reduceAdd, Int.reduceSub, bne, false_imp_iff, forall_const, imp_self, implies_true, true_imp_iff, Nat.reduceMul, Nat.reduceLT, Int.reduceToNat]
          have hr : fitK (c + 1) (high + 1) ks = (false, (fitT ci (high + 1) ks[i]).2) := by
            rw [hfit, hdrop]
            simp only [fitK, hf1, Bool.false_eq_true, if_false]
          rw [hr]
          refine ⟨rfl, by omega, fun b' hb' => ?_⟩
          have e1 : ¬ b' = H2.next := by omega
          simp only [e1, if_false]
          by_cases e2 : b' = b
          · rw [if_pos e2, if_pos e2]
          · rw [if_neg e2, if_neg e2, hget b' hb', if_neg e2]
    · have hir : i = ks.length := by omega
      have hltI : ¬ (i : Int) < (ks.length : Int) := by omega
      have hr : fitK (c + 1) (high + 1) ks = (true, ci) := by
        rw [hfit, hir, List.drop_length]
        rfl
      simp -implicitDefEqProofs only [s_seq, s_ops, s_draw, s_block, s_skip, s_ret, s_exit, i_nil, i_cons, i_run, i_runG, s_condQ, c_true, c_false, aop, ev_t, ev_c, updO_at, updO_no, upd_at, t_normal, t_ret, t_exit, b_normal, b_ret, b_exit, a_some, ac_v, ac_agg, ac_ptr, ac_slc, ac_ro, ac_rop, ac_fn, new_next, set_next, argTm_zero, argTm_succ, argTm_nil, ab_bool, ab_uv, beq_self_eq_true, Option.some_beq_some, Bool.not_not, beq_iff_eq, decide_true, decide_false, Bool.not_true, Bool.not_false, afld, aload, astore, apack, alen_str, alen_ro, alen_slc, alen_nil, new_get, set_get, ite_true, ite_false, Option.map_some, Option.bind_some, ibin, isShift, Nat.reduceEqDiff, Nat.add_zero, Nat.zero_add, List.length_cons, List.length_nil, Nat.reduceAdd, Nat.reduceLeDiff, List.drop_zero, List.drop_succ_cons, List.take_succ_cons, List.take_zero, if_true, if_false, ↓reduceIte, reduceCtorEq, setL, List.set_cons_zero, List.set_cons_succ, List.all_cons, List.all_nil, one_int, one_bool, one_str, one_nil, one_ptr, one_slc, one_ro, one_rop, one_fn, Bool.and_self, Bool.and_true, true_and, and_true, and_self, Bool.false_eq_true, post_ret, post_normal, resAll, resOne, packR, Option.some.injEq, exists_eq_left', List.map_cons, List.map_nil, List.nil_append, List.append_nil, List.cons_append, d_nil, d_cons, k_nil, k_cons, g_op, g_same, g_new, avBlock, forall_eq', List.getElem?_cons_succ, List.getElem?_cons_zero, List.getElem?_nil, okind, gOk, Int.reduceBEq, Int.reduceBNe, Int.reduceLT, Int.reduceLE, Int.reduceGT, Int.reduceGE, Int.reduceNeg, Int.reduceAdd, Int.reduceSub, bne, false_imp_iff, forall_const, imp_self, implies_true, true_imp_iff, Nat.reduceMul, Nat.reduceLT, Int.reduceToNat, h27, h28, hltI, hr]
      exact ⟨hnx, fun b' hb' => hget b' hb'⟩
  refine (main.cutTo (H.set b (.cells [aint (fitT c high (.mk f n hid s lv ks)).2])) rfl ?_ ?_).mono ?_
  · intro hw b' o hg
    rw [set_get] at hg
    split at hg
    · rename_i hbb; rw [hbb]; exact hbn
    · exact hw b' o hg
  · rintro _ x H' ⟨rfl, h1, h2⟩
    refine ⟨h1, .v _, h2, fun b' hb' o hg => ?_⟩
    rw [set_get] at hg
    split at hg
    · injection hg with hg
      subst hg
      exact .inr (.cells _ fun x hx => by simp only [List.mem_cons, List.not_mem_nil, or_false] at hx; subst hx; exact .v _)
    · exact .inl hg
  · rintro x H' ⟨⟨_, rfl, _⟩, rfl⟩
    exact ⟨rfl, rfl⟩
end Go.Proofs.Ytooaiddfokbffaa.E
