/- Terms are made, as the code makes them; the level 0 is canonical. Conditions: none. -/
import Derived.Test.YtooaiddfokbffaaT9
set_option linter.unusedVariables false
set_option linter.unusedSimpArgs false
namespace Go.Proofs.Ytooaiddfokbffaa.E
open Go Go.Proofs

theorem SCall.wf {P : Program} {f : FuncId} {args : List AV} {H : AHeap} {R : AV → AHeap → Prop} (h : SCall P f args H R) : SCall P f args H fun x H' => R x H' ∧ Wf H' :=
  ⟨h.1, fun e w us h1 h2 => (h.2 e w us h1 h2).mono fun en w' ⟨u, x, H', e', a, b, c, d⟩ => ⟨u, x, H', e', a, ⟨b, c.get⟩, c, d⟩⟩

set_option maxRecDepth 100000 in
theorem set_ok (H : AHeap) : SCall Try.prog 23 [aint 0] H fun x H' => ((∃ b, H.next ≤ b ∧ x = .agg [aint 2, aint 0, abl false, nostr, .slc b 0 2 1 1 true, nils] ∧ H'.get b = some (.cells [aint 0, nils])) ∧ Ext H H') ∧ Wf H' := by
  refine SCall.wf (SCall.intro mixed cf23 ?_)
  have e1 : ¬ H.next = H.next + 1 := by omega
  have e2 : ¬ H.next + 1 = H.next := by omega
  simp -implicitDefEqProofs only [c23, s_seq, s_ops, s_draw, s_block, s_skip, s_ret, s_exit, i_nil, i_cons, i_run, i_runG, s_condQ, c_true, c_false, aop, ev_t, ev_c, updO_at, updO_no, upd_at, t_normal, t_ret, t_exit, b_normal, b_ret, b_exit, a_some, ac_v, ac_agg, ac_ptr, ac_slc, ac_ro, ac_rop, ac_fn, new_next, set_next, argTm_zero, argTm_succ, argTm_nil, ab_bool, ab_uv, beq_self_eq_true, Option.some_beq_some, Bool.not_not, beq_iff_eq, decide_true, decide_false, Bool.not_true, Bool.not_false, afld, aload, astore, apack, alen_str, alen_ro, alen_slc, alen_nil, new_get, set_get, ite_true, ite_false, Option.map_some, Option.bind_some, ibin, isShift, Nat.reduceEqDiff, Nat.add_zero, Nat.zero_add, List.length_cons, List.length_nil, Nat.reduceAdd, Nat.reduceLeDiff, List.drop_zero, List.drop_succ_cons, List.take_succ_cons, List.take_zero, if_true, if_false, ↓reduceIte, reduceCtorEq, setL, List.set_cons_zero, List.set_cons_succ, List.all_cons, List.all_nil, one_int, one_bool, one_str, one_nil, one_ptr, one_slc, one_ro, one_rop, one_fn, Bool.and_self, Bool.and_true, true_and, and_true, and_self, Bool.false_eq_true, post_ret, post_normal, resAll, resOne, packR, Option.some.injEq, exists_eq_left', List.map_cons, List.map_nil, List.nil_append, List.append_nil, List.cons_append, d_nil, d_cons, k_nil, k_cons, g_op, g_same, g_new, avBlock, forall_eq', List.getElem?_cons_succ, List.getElem?_cons_zero, List.getElem?_nil, okind, gOk, Int.reduceBEq, Int.reduceBNe, Int.reduceLT, Int.reduceLE, Int.reduceGT, Int.reduceGE, Int.reduceNeg, Int.reduceAdd, Int.reduceSub, bne, false_imp_iff, forall_const, imp_self, implies_true, true_imp_iff, Nat.reduceMul, Nat.reduceLT, Int.reduceToNat, afill, e1, e2]
  refine ⟨⟨H.next + 1, by omega, rfl, ?_⟩, ?_, fun b hb => ?_⟩
  · simp -implicitDefEqProofs only [s_seq, s_ops, s_draw, s_block, s_skip, s_ret, s_exit, i_nil, i_cons, i_run, i_runG, s_condQ, c_true, c_false, aop, ev_t, ev_c, updO_at, updO_no, upd_at, t_normal, t_ret, t_exit, b_normal, b_ret, b_exit, a_some, ac_v, ac_agg, ac_ptr, ac_slc, ac_ro, ac_rop, ac_fn, new_next, set_next, argTm_zero, argTm_succ, argTm_nil, ab_bool, ab_uv, beq_self_eq_true, Option.some_beq_some, Bool.not_not, beq_iff_eq, decide_true, decide_false, Bool.not_true, Bool.not_false, afld, aload, astore, apack, alen_str, alen_ro, alen_slc, alen_nil, new_get, set_get, ite_true, ite_false, Option.map_some, Option.bind_some, ibin, isShift, Nat.reduceEqDiff, Nat.add_zero, Nat.zero_add, List.length_cons, List.length_nil, Nat.reduceAdd, Nat.reduceLeDiff, List.drop_zero, List.drop_succ_cons, List.take_succ_cons, List.take_zero, if_true, if_false, ↓reduceIte, reduceCtorEq, setL, List.set_cons_zero, List.set_cons_succ, List.all_cons, List.all_nil, one_int, one_bool, one_str, one_nil, one_ptr, one_slc, one_ro, one_rop, one_fn, Bool.and_self, Bool.and_true, true_and, and_true, and_self, Bool.false_eq_true, post_ret, post_normal, resAll, resOne, packR, Option.some.injEq, exists_eq_left', List.map_cons, List.map_nil, List.nil_append, List.append_nil, List.cons_append, d_nil, d_cons, k_nil, k_cons, g_op, g_same, g_new, avBlock, forall_eq', List.getElem?_cons_succ, List.getElem?_cons_zero, List.getElem?_nil, okind, gOk, Int.reduceBEq, Int.reduceBNe, Int.reduceLT, Int.reduceLE, Int.reduceGT, Int.reduceGE, Int.reduceNeg, Int.reduceAdd, Int.reduceSub, bne, false_imp_iff, forall_const, imp_self, implies_true, true_imp_iff, Nat.reduceMul, Nat.reduceLT, Int.reduceToNat, e1, e2]
  · simp -implicitDefEqProofs only [s_seq, s_ops, s_draw, s_block, s_skip, s_ret, s_exit, i_nil, i_cons, i_run, i_runG, s_condQ, c_true, c_false, aop, ev_t, ev_c, updO_at, updO_no, upd_at, t_normal, t_ret, t_exit, b_normal, b_ret, b_exit, a_some, ac_v, ac_agg, ac_ptr, ac_slc, ac_ro, ac_rop, ac_fn, new_next, set_next, argTm_zero, argTm_succ, argTm_nil, ab_bool, ab_uv, beq_self_eq_true, Option.some_beq_some, Bool.not_not, beq_iff_eq, decide_true, decide_false, Bool.not_true, Bool.not_false, afld, aload, astore, apack, alen_str, alen_ro, alen_slc, alen_nil, new_get, set_get, ite_true, ite_false, Option.map_some, Option.bind_some, ibin, isShift, Nat.reduceEqDiff, Nat.add_zero, Nat.zero_add, List.length_cons, List.length_nil, Nat.reduceAdd, Nat.reduceLeDiff, List.drop_zero, List.drop_succ_cons, List.take_succ_cons, List.take_zero, if_true, if_false, ↓reduceIte, reduceCtorEq, setL, List.set_cons_zero, List.set_cons_succ, List.all_cons, List.all_nil, one_int, one_bool, one_str, one_nil, one_ptr, one_slc, one_ro, one_rop, one_fn, Bool.and_self, Bool.and_true, true_and, and_true, and_self, Bool.false_eq_true, post_ret, post_normal, resAll, resOne, packR, Option.some.injEq, exists_eq_left', List.map_cons, List.map_nil, List.nil_append, List.append_nil, List.cons_append, d_nil, d_cons, k_nil, k_cons, g_op, g_same, g_new, avBlock, forall_eq', List.getElem?_cons_succ, List.getElem?_cons_zero, List.getElem?_nil, okind, gOk, Int.reduceBEq, Int.reduceBNe, Int.reduceLT, Int.reduceLE, Int.reduceGT, Int.reduceGE, Int.reduceNeg, Int.reduceAdd, Int.reduceSub, bne, false_imp_iff, forall_const, imp_self, implies_true, true_imp_iff, Nat.reduceMul, Nat.reduceLT, Int.reduceToNat]; omega
  · have k1 : ¬ b = H.next := by omega
    have k2 : ¬ b = H.next + 1 := by omega
    simp -implicitDefEqProofs only [s_seq, s_ops, s_draw, s_block, s_skip, s_ret, s_exit, i_nil, i_cons, i_run, i_runG, s_condQ, c_true, c_false, aop, ev_t, ev_c, updO_at, updO_no, upd_at, t_normal, t_ret, t_exit, b_normal, b_ret, b_exit, a_some, ac_v, ac_agg, ac_ptr, ac_slc, ac_ro, ac_rop, ac_fn, new_next, set_next, argTm_zero, argTm_succ, argTm_nil, ab_bool, ab_uv, beq_self_eq_true, Option.some_beq_some, Bool.not_not, beq_iff_eq, decide_true, decide_false, Bool.not_true, Bool.not_false, afld, aload, astore, apack, alen_str, alen_ro, alen_slc, alen_nil, new_get, set_get, ite_true, ite_false, Option.map_some, Option.bind_some, ibin, isShift, Nat.reduceEqDiff, Nat.add_zero, Nat.zero_add, List.length_cons, List.length_nil, Nat.reduceAdd, Nat.reduceLeDiff, List.drop_zero, List.drop_succ_cons, List.take_succ_cons, List.take_zero, if_true, if_false, ↓reduceIte, reduceCtorEq, setL, List.set_cons_zero, List.set_cons_succ, List.all_cons, List.all_nil, one_int, one_bool, one_str, one_nil, one_ptr, one_slc, one_ro, one_rop, one_fn, Bool.and_self, Bool.and_true, true_and, and_true, and_self, Bool.false_eq_true, post_ret, post_normal, resAll, resOne, packR, Option.some.injEq, exists_eq_left', List.map_cons, List.map_nil, List.nil_append, List.append_nil, List.cons_append, d_nil, d_cons, k_nil, k_cons, g_op, g_same, g_new, avBlock, forall_eq', List.getElem?_cons_succ, List.getElem?_cons_zero, List.getElem?_nil, okind, gOk, Int.reduceBEq, Int.reduceBNe, Int.reduceLT, Int.reduceLE, Int.reduceGT, Int.reduceGE, Int.reduceNeg, Int.reduceAdd, Int.reduceSub, bne, false_imp_iff, forall_const, imp_self, implies_true, true_imp_iff, Nat.reduceMul, Nat.reduceLT, Int.reduceToNat, k1, k2]

set_option maxRecDepth 100000 in
theorem app_ok (H : AHeap) (a1 a2 a3 a4 a5 a6 b1 b2 b3 b4 b5 b6 : AV) (ho1 : a1.one = true ∧ a2.one = true ∧ a3.one = true ∧ a4.one = true ∧ a5.one = true ∧ a6.one = true) (ho2 : b1.one = true ∧ b2.one = true ∧ b3.one = true ∧ b4.one = true ∧ b5.one = true ∧ b6.one = true) :
    SCall Try.prog 25 [.agg [a1, a2, a3, a4, a5, a6], .agg [b1, b2, b3, b4, b5, b6]] H fun x H' => ((∃ b, H.next ≤ b ∧ x = .agg [aint 5, aint 0, abl false, nostr, nils, .slc b 0 6 2 2 true] ∧ H'.get b = some (.cells ([a1, a2, a3, a4, a5, a6] ++ [b1, b2, b3, b4, b5, b6]))) ∧ Ext H H') ∧ Wf H' := by
  refine SCall.wf (SCall.intro mixed cf25 ?_)
  obtain ⟨p1, p2, p3, p4, p5, p6⟩ := ho1
  obtain ⟨q1, q2, q3, q4, q5, q6⟩ := ho2
  have e1 : ¬ H.next = H.next + 1 := by omega
  have e2 : ¬ H.next + 1 = H.next := by omega
  have e3 : ¬ H.next = H.next + 1 + 1 := by omega
  have e4 : ¬ H.next + 1 + 1 = H.next := by omega
  have e5 : ¬ H.next + 1 = H.next + 1 + 1 := by omega
  have e6 : ¬ H.next + 1 + 1 = H.next + 1 := by omega
  have e7 : ¬ H.next = H.next + 1 + 1 + 1 := by omega
  have e8 : ¬ H.next + 1 = H.next + 1 + 1 + 1 := by omega
  have e9 : ¬ H.next + 1 + 1 = H.next + 1 + 1 + 1 := by omega
  have e10 : ¬ H.next + 1 + 1 + 1 = H.next + 1 + 1 := by omega
  simp -implicitDefEqProofs only [c25, s_seq, s_ops, s_draw, s_block, s_skip, s_ret, s_exit, i_nil, i_cons, i_run, i_runG, s_condQ, c_true, c_false, aop, ev_t, ev_c, updO_at, updO_no, upd_at, t_normal, t_ret, t_exit, b_normal, b_ret, b_exit, a_some, ac_v, ac_agg, ac_ptr, ac_slc, ac_ro, ac_rop, ac_fn, new_next, set_next, argTm_zero, argTm_succ, argTm_nil, ab_bool, ab_uv, beq_self_eq_true, Option.some_beq_some, Bool.not_not, beq_iff_eq, decide_true, decide_false, Bool.not_true, Bool.not_false, afld, aload, astore, apack, alen_str, alen_ro, alen_slc, alen_nil, new_get, set_get, ite_true, ite_false, Option.map_some, Option.bind_some, ibin, isShift, Nat.reduceEqDiff, Nat.add_zero, Nat.zero_add, List.length_cons, List.length_nil, Nat.reduceAdd, Nat.reduceLeDiff, List.drop_zero, List.drop_succ_cons, List.take_succ_cons, List.take_zero, if_true, if_false, ↓reduceIte, reduceCtorEq, setL, List.set_cons_zero, List.set_cons_succ, List.all_cons, List.all_nil, one_int, one_bool, one_str, one_nil, one_ptr, one_slc, one_ro, one_rop, one_fn, Bool.and_self, Bool.and_true, true_and, and_true, and_self, Bool.false_eq_true, post_ret, post_normal, resAll, resOne, packR, Option.some.injEq, exists_eq_left', List.map_cons, List.map_nil, List.nil_append, List.append_nil, List.cons_append, d_nil, d_cons, k_nil, k_cons, g_op, g_same, g_new, avBlock, forall_eq', List.getElem?_cons_succ, List.getElem?_cons_zero, List.getElem?_nil, okind, gOk, Int.reduceBEq, Int.reduceBNe, Int.reduceLT, Int.reduceLE, Int.reduceGT, Int.reduceGE, Int.reduceNeg, Int.reduceAdd, Int.reduceSub, bne, false_imp_iff, forall_const, imp_self, implies_true, true_imp_iff, Nat.reduceMul, Nat.reduceLT, Int.reduceToNat, afill, e1, e2, e3, e4, e5, e6, e7, e8, e9, e10, p1, p2, p3, p4, p5, p6, q1, q2, q3, q4, q5, q6]
  refine ⟨⟨H.next + 1 + 1 + 1, by omega, rfl, ?_⟩, ?_, fun b hb => ?_⟩
  · simp -implicitDefEqProofs only [s_seq, s_ops, s_draw, s_block, s_skip, s_ret, s_exit, i_nil, i_cons, i_run, i_runG, s_condQ, c_true, c_false, aop, ev_t, ev_c, updO_at, updO_no, upd_at, t_normal, t_ret, t_exit, b_normal, b_ret, b_exit, a_some, ac_v, ac_agg, ac_ptr, ac_slc, ac_ro, ac_rop, ac_fn, new_next, set_next, argTm_zero, argTm_succ, argTm_nil, ab_bool, ab_uv, beq_self_eq_true, Option.some_beq_some, Bool.not_not, beq_iff_eq, decide_true, decide_false, Bool.not_true, Bool.not_false, afld, aload, astore, apack, alen_str, alen_ro, alen_slc, alen_nil, new_get, set_get, ite_true, ite_false, Option.map_some, Option.bind_some, ibin, isShift, Nat.reduceEqDiff, Nat.add_zero, Nat.zero_add, List.length_cons, List.length_nil, Nat.reduceAdd, Nat.reduceLeDiff, List.drop_zero, List.drop_succ_cons, List.take_succ_cons, List.take_zero, if_true, if_false, ↓reduceIte, reduceCtorEq, setL, List.set_cons_zero, List.set_cons_succ, List.all_cons, List.all_nil, one_int, one_bool, one_str, one_nil, one_ptr, one_slc, one_ro, one_rop, one_fn, Bool.and_self, Bool.and_true, true_and, and_true, and_self, Bool.false_eq_true, post_ret, post_normal, resAll, resOne, packR, Option.some.injEq, exists_eq_left', List.map_cons, List.map_nil, List.nil_append, List.append_nil, List.cons_append, d_nil, d_cons, k_nil, k_cons, g_op, g_same, g_new, avBlock, forall_eq', List.getElem?_cons_succ, List.getElem?_cons_zero, List.getElem?_nil, okind, gOk, Int.reduceBEq, Int.reduceBNe, Int.reduceLT, Int.reduceLE, Int.reduceGT, Int.reduceGE, Int.reduceNeg, Int.reduceAdd, Int.reduceSub, bne, false_imp_iff, forall_const, imp_self, implies_true, true_imp_iff, Nat.reduceMul, Nat.reduceLT, Int.reduceToNat, e1, e2, e3, e4, e5, e6, e7, e8, e9, e10]
  · simp -implicitDefEqProofs only [s_seq, s_ops, s_draw, s_block, s_skip, s_ret, s_exit, i_nil, i_cons, i_run, i_runG, s_condQ, c_true, c_false, aop, ev_t, ev_c, updO_at, updO_no, upd_at, t_normal, t_ret, t_exit, b_normal, b_ret, b_exit, a_some, ac_v, ac_agg, ac_ptr, ac_slc, ac_ro, ac_rop, ac_fn, new_next, set_next, argTm_zero, argTm_succ, argTm_nil, ab_bool, ab_uv, beq_self_eq_true, Option.some_beq_some, Bool.not_not, beq_iff_eq, decide_true, decide_false, Bool.not_true, Bool.not_false, afld, aload, astore, apack, alen_str, alen_ro, alen_slc, alen_nil, new_get, set_get, ite_true, ite_false, Option.map_some, Option.bind_some, ibin, isShift, Nat.reduceEqDiff, Nat.add_zero, Nat.zero_add, List.length_cons, List.length_nil, Nat.reduceAdd, Nat.reduceLeDiff, List.drop_zero, List.drop_succ_cons, List.take_succ_cons, List.take_zero, if_true, if_false, ↓reduceIte, reduceCtorEq, setL, List.set_cons_zero, List.set_cons_succ, List.all_cons, List.all_nil, one_int, one_bool, one_str, one_nil, one_ptr, one_slc, one_ro, one_rop, one_fn, Bool.and_self, Bool.and_true, true_and, and_true, and_self, Bool.false_eq_true, post_ret, post_normal, resAll, resOne, packR, Option.some.injEq, exists_eq_left', List.map_cons, List.map_nil, List.nil_append, List.append_nil, List.cons_append, d_nil, d_cons, k_nil, k_cons, g_op, g_same, g_new, avBlock, forall_eq', List.getElem?_cons_succ, List.getElem?_cons_zero, List.getElem?_nil, okind, gOk, Int.reduceBEq, Int.reduceBNe, Int.reduceLT, Int.reduceLE, Int.reduceGT, Int.reduceGE, Int.reduceNeg, Int.reduceAdd, Int.reduceSub, bne, false_imp_iff, forall_const, imp_self, implies_true, true_imp_iff, Nat.reduceMul, Nat.reduceLT, Int.reduceToNat]; omega
  · have k1 : ¬ b = H.next := by omega
    have k2 : ¬ b = H.next + 1 := by omega
    have k3 : ¬ b = H.next + 1 + 1 := by omega
    have k4 : ¬ b = H.next + 1 + 1 + 1 := by omega
    simp -implicitDefEqProofs only [s_seq, s_ops, s_draw, s_block, s_skip, s_ret, s_exit, i_nil, i_cons, i_run, i_runG, s_condQ, c_true, c_false, aop, ev_t, ev_c, updO_at, updO_no, upd_at, t_normal, t_ret, t_exit, b_normal, b_ret, b_exit, a_some, ac_v, ac_agg, ac_ptr, ac_slc, ac_ro, ac_rop, ac_fn, new_next, set_next, argTm_zero, argTm_succ, argTm_nil, ab_bool, ab_uv, beq_self_eq_true, Option.some_beq_some, Bool.not_not, beq_iff_eq, decide_true, decide_false, Bool.not_true, Bool.not_false, afld, aload, astore, apack, alen_str, alen_ro, alen_slc, alen_nil, new_get, set_get, ite_true, ite_false, Option.map_some, Option.bind_some, ibin, isShift, Nat.reduceEqDiff, Nat.add_zero, Nat.zero_add, List.length_cons, List.length_nil, Nat.reduceAdd, Nat.reduceLeDiff, List.drop_zero, List.drop_succ_cons, List.take_succ_cons, List.take_zero, if_true, if_false, ↓reduceIte, reduceCtorEq, setL, List.set_cons_zero, List.set_cons_succ, List.all_cons, List.all_nil, one_int, one_bool, one_str, one_nil, one_ptr, one_slc, one_ro, one_rop, one_fn, Bool.and_self, Bool.and_true, true_and, and_true, and_self, Bool.false_eq_true, post_ret, post_normal, resAll, resOne, packR, Option.some.injEq, exists_eq_left', List.map_cons, List.map_nil, List.nil_append, List.append_nil, List.cons_append, d_nil, d_cons, k_nil, k_cons, g_op, g_same, g_new, avBlock, forall_eq', List.getElem?_cons_succ, List.getElem?_cons_zero, List.getElem?_nil, okind, gOk, Int.reduceBEq, Int.reduceBNe, Int.reduceLT, Int.reduceLE, Int.reduceGT, Int.reduceGE, Int.reduceNeg, Int.reduceAdd, Int.reduceSub, bne, false_imp_iff, forall_const, imp_self, implies_true, true_imp_iff, Nat.reduceMul, Nat.reduceLT, Int.reduceToNat, k1, k2, k3, k4]

/-! ### Levels -/
def isBool (b : Bool) : Option (AV × AHeap) → Bool
  | some (.v (.bool c), _) => c == b
  | _ => false

theorem isBool_spec {b : Bool} {r : Option (AV × AHeap)} (h : isBool b r = true) : ∃ H', r = some (abl b, H') := by
  unfold isBool at h
  split at h
  · rename_i c H'
    rw [eq_of_beq h]
    exact ⟨H', rfl⟩
  · cases h

/-- A closed answer, in whatever heap. -/
theorem run_bool {f : FuncId} {args : List AV} {b : Bool} {m n : Nat} (h : isBool b (evF (tabAt tabL) m n f args AHeap.empty) = true) {args' : List AV} {H : AHeap} (ha : ∀ e w us, HRel e H w → LRel e w args' us → LRel Emb.empty w args us) :
    SCall Try.prog f args' H fun x H' => x = abl b ∧ H' = H := by
  obtain ⟨H', h1⟩ := isBool_spec h
  have := evF_sound mixed (T := tabAt tabL) (fun k F hk => tabAt_spec (Q := fun k F => ∃ pl, compFn Try.prog k pl = some F) tabL tabL_ok k F hk) m n f args AHeap.empty _ _ h1
  exact SCall.frame (R := fun x => x = abl b) (this.mono fun x H'' hx => hx.1) (fun x hx => ⟨_, hx⟩) ha

theorem can_nil : isBool true (evF (tabAt tabL) 100 40 173 [.agg [aint 0, nils]] AHeap.empty) = true := by kernel_rfl
theorem can2_nil : isBool true (evF (tabAt tabL) 100 40 132 [.agg [aint 0, nils]] AHeap.empty) = true := by kernel_rfl
theorem can_ro (lo : Nat) (ex : Bool) : isBool true (evF (tabAt tabL) 100 40 173 [.agg [aint 0, .ro 0 lo ex []]] AHeap.empty) = true := by kernel_rfl
theorem can2_ro (lo : Nat) (ex : Bool) : isBool true (evF (tabAt tabL) 100 40 132 [.agg [aint 0, .ro 0 lo ex []]] AHeap.empty) = true := by kernel_rfl

theorem frz_one {H : AHeap} {e : Emb} {w : World} {us : List Value} {x y : AV} (hH : HRel e H w) (h : Frz H x y) (hL : LRel e w [x] us) : LRel Emb.empty w [y] us :=
  frz_list (args := [x]) (args' := [y]) rfl (fun i a b ha hb => by
    cases i with
    | zero => simp at ha hb; subst ha hb; exact h
    | succ i => simp at ha) hH hL

theorem frz_lv (H : AHeap) {vx : AV} {vs : List AV} (h : SlR 0 vx vs) : (vx = nils ∧ Frz H (.agg [aint 0, vx]) (.agg [aint 0, nils])) ∨ ∃ lo ex, Frz H (.agg [aint 0, vx]) (.agg [aint 0, .ro 0 lo ex []]) := by
  rcases h with ⟨_, rfl⟩ | ⟨lo, ex, rfl, _⟩
  · refine .inl ⟨rfl, .agg _ _ rfl fun i x y hx hy => ?_⟩
    rw [hx] at hy
    injection hy with hy
    subst hy
    match i, hx with
    | 0, hx => simp at hx; subst hx; exact .v _
    | 1, hx => simp at hx; subst hx; exact .v _
  · refine .inr ⟨lo, ex, .agg _ _ rfl fun i x y hx hy => ?_⟩
    match i, hx, hy with
    | 0, hx, hy => simp at hx hy; subst hx hy; exact .v _
    | 1, hx, hy => simp at hx hy; subst hx hy; exact .ro _ _ _ _ _ (Nat.zero_le _) (fun i x y _ hy => by simp at hy)

def yes : Lv → Bool := fun _ => true

theorem canSpec0 : CanSpec yes ⟨0, []⟩ := by
  intro vx vs H h1 h2
  rcases frz_lv H h1 with ⟨_, hf⟩ | ⟨lo, ex, hf⟩
  · exact run_bool can_nil fun e w us hH hL => frz_one hH hf hL
  · exact run_bool (can_ro lo ex) fun e w us hH hL => frz_one hH hf hL

theorem canSpec20 : CanSpec2 yes ⟨0, []⟩ := by
  intro vx vs H h1 h2
  rcases frz_lv H h1 with ⟨_, hf⟩ | ⟨lo, ex, hf⟩
  · exact run_bool can2_nil fun e w us hH hL => frz_one hH hf hL
  · exact run_bool (can2_ro lo ex) fun e w us hH hL => frz_one hH hf hL

/-- Terms that are made here. -/
inductive Made : Tm → Prop
  | set : Made setTm
  | fst {t : Tm} (h : Made t) : Made (fstTm t)
  | app {a b : Tm} (h : Made a) (k : Made b) : Made (appTm a b)

theorem Made.fine {t : Tm} (h : Made t) : Tm.All (Fine yes) t := by
  induction h with
  | set => simp only [setTm, Tm.All, Tm.AllL, Fine, Tm.lv, Tm.kids]; exact ⟨⟨by simp, by simp, fun l hl => by simp at hl; subst hl; exact canSpec0⟩, trivial⟩
  | fst h ih => simp only [fstTm, Tm.All, Tm.AllL, Fine, Tm.lv, Tm.kids]; exact ⟨⟨by simp, by simp, fun l hl => by simp at hl⟩, ih, trivial⟩
  | app h k ih1 ih2 => simp only [appTm, Tm.All, Tm.AllL, Fine, Tm.lv, Tm.kids]; exact ⟨⟨by simp, by simp, fun l hl => by simp at hl⟩, ih1, ih2, trivial⟩

theorem Made.fine2 {t : Tm} (h : Made t) : Tm.All (Fine2 yes) t := by
  induction h with
  | set => simp only [setTm, Tm.All, Tm.AllL, Fine2, Tm.lv, Tm.kids]; exact ⟨⟨by simp, by simp, fun l hl => by simp at hl; subst hl; exact canSpec20⟩, trivial⟩
  | fst h ih => simp only [fstTm, Tm.All, Tm.AllL, Fine2, Tm.lv, Tm.kids]; exact ⟨⟨by simp, by simp, fun l hl => by simp at hl⟩, ih, trivial⟩
  | app h k ih1 ih2 => simp only [appTm, Tm.All, Tm.AllL, Fine2, Tm.lv, Tm.kids]; exact ⟨⟨by simp, by simp, fun l hl => by simp at hl⟩, ih1, ih2, trivial⟩

theorem Made.formed {t : Tm} (h : Made t) : allF (formF yes) t = true := by
  induction h with
  | set => rfl
  | fst h ih =>
    simp only [fstTm, allF, allK, ih, Bool.and_true]
    rfl
  | app h k ih1 ih2 =>
    simp only [appTm, allF, allK, ih1, ih2, Bool.and_true]
    rfl

theorem Made.check {t : Tm} (h : Made t) : checkF yes t = if (fitT 0 1 t).1 = false then 2 else 0 := by
  simp only [checkF, h.formed, Bool.true_eq_false, if_false]

def chain : Nat → Tm
  | 0 => setTm
  | n + 1 => fstTm (chain n)

theorem chain_made : ∀ n, Made (chain n)
  | 0 => .set
  | n + 1 => .fst (chain_made n)

theorem chain_fit : ∀ (n : Nat) (c high : Int), (fitT c high (chain n)).1 = decide (c + 1 + n ≤ 20000 ∧ high + n ≤ 500)
  | 0, c, high => by
    simp only [chain, setTm, fitT, fitK]
    by_cases h : c + 1 > 20000 ∨ high > 500
    · rw [if_pos h]; simp; omega
    · rw [if_neg h]; simp; omega
  | n + 1, c, high => by
    simp only [chain, fstTm, fitT, fitK]
    have ih := chain_fit n (c + 1) (high + 1)
    by_cases h : c + 1 > 20000 ∨ high > 500
    · rw [if_pos h]; simp; omega
    · rw [if_neg h]
      cases hf : (fitT (c + 1) (high + 1) (chain n)).1 with
      | true =>
        rw [hf] at ih
        simp only [if_true]
        have := of_decide_eq_true ih.symm
        simp; omega
      | false =>
        rw [hf] at ih
        simp only [Bool.false_eq_true, if_false]
        have := of_decide_eq_false ih.symm
        simp; omega

theorem size_made {t : Tm} (h : Made t) : (sizeF yes t > 0 → checkF yes t = 0) ∧ (¬ sizeF yes t > 0 → checkF yes t = 2) := by
  rw [h.check]
  unfold sizeF
  rw [h.check]
  cases hf : (fitT 0 1 t).1 with
  | true =>
    have := fit_bound t 0 1 hf
    simp
    omega
  | false => simp

end Go.Proofs.Ytooaiddfokbffaa.E
