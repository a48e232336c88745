/- The row TermSame: whatever the input, the law answers true. Conditions: none. -/
import Derived.Test.YtooaiddfokbffaaA7
import Derived.Test.YtooaiddfokbffaaRows
import Derived.WalkKit
import Derived.ProofKit
import Derived.OpenShut
import Derived.ShutString
import Derived.ChangeOld
import Derived.Below
import Derived.SizedLaws
import Derived.Carry
/- Whether two terms are one, as the reference asks it; the law TermSame, walked. Conditions: none. -/
set_option linter.unusedVariables false
set_option linter.unusedSimpArgs false
namespace Go.Proofs.Ytooaiddfokbffaa.E
open Go Go.Proofs
attribute [local go_sem] s_seq s_ops s_draw s_block s_skip s_ret s_exit i_nil i_cons i_run i_runG s_condQ c_true c_false aop ev_t ev_c updO_at updO_no upd_at t_normal t_ret t_exit b_normal b_ret b_exit a_some ac_v ac_agg ac_ptr ac_slc ac_ro ac_rop ac_fn new_next set_next argTm_zero argTm_succ argTm_nil ab_bool ab_uv beq_self_eq_true Option.some_beq_some Bool.not_not beq_iff_eq decide_true decide_false Bool.not_true Bool.not_false afld aload astore apack alen_str alen_ro alen_slc alen_nil new_get set_get ite_true ite_false Option.map_some Option.bind_some ibin isShift Nat.add_zero Nat.zero_add List.length_cons List.length_nil List.drop_zero List.drop_succ_cons List.take_succ_cons List.take_zero if_true if_false setL List.set_cons_zero List.set_cons_succ List.all_cons List.all_nil one_int one_bool one_str one_nil one_ptr one_slc one_ro one_rop one_fn Bool.and_self Bool.and_true true_and and_true and_self Bool.false_eq_true post_ret post_normal resAll resOne packR Option.some.injEq exists_eq_left' List.map_cons List.map_nil List.nil_append List.append_nil List.cons_append d_nil d_cons k_nil k_cons g_op g_same g_new avBlock forall_eq' List.getElem?_cons_succ List.getElem?_cons_zero List.getElem?_nil okind gOk bne false_imp_iff forall_const imp_self implies_true true_imp_iff i_callG

theorem form_can {r : Lv → Bool} {f n : Int} {h : Bool} {s : ByteArray} {lv : List Lv} {ks : List Tm} (hf : formF r (.mk f n h s lv ks) = true) (h2 : f = 2 ∨ f = 10) : ∀ l ∈ lv, r l = true := by
  have hk : kidsF f = (ks.length : Int) := by
    rcases Classical.em (kidsF f = (ks.length : Int)) with h' | h'
    · exact h'
    · unfold formF at hf
      rw [if_pos (by exact h')] at hf
      cases hf
  rw [formF_eq r f n h s lv ks hk] at hf
  have key : lv.all r = true := by
    rcases h2 with rfl | rfl
    · rw [if_neg (by decide), if_neg (by decide), if_pos rfl] at hf
      exact (Bool.and_eq_true_iff.1 hf).2
    · rw [if_neg (by decide), if_neg (by decide), if_neg (by decide), if_pos rfl] at hf
      exact (Bool.and_eq_true_iff.1 hf).2
  exact fun l hl => List.all_eq_true.1 key l hl

theorem allK_mem {p : Tm → Bool} : ∀ {ks : List Tm}, allK p ks = true → ∀ {k : Tm}, k ∈ ks → allF p k = true
  | k0 :: ks, h, k, hk => by
    simp only [allK, Bool.and_eq_true] at h
    rcases List.mem_cons.1 hk with rfl | hk
    · exact h.1
    · exact allK_mem h.2 hk

set_option maxRecDepth 100000 in
theorem rawSame2_ok : ∀ a, Tm.All TmB a → allF (formF canF) a = true → ∀ (b : Tm), allF (formF canF) b = true → ∀ (ac bc : List AV), TmR a ac → TmR b bc → ∀ (H : AHeap),
    SCall Try.prog 97 [.agg ac, .agg bc, abl true] H fun x H' => x = abl (sameT a b) ∧ H' = H := by
  refine Tm.rule fun f n hid s lv ks ih ha hca b hcb ac bc hA hB H => ?_
  obtain ⟨f', n', hid', s', lv', ks'⟩ := b
  obtain ⟨lx, kx, ls, cs, rfl, hl1, hl2, hk1, hk2⟩ := hA.six
  obtain ⟨lx', kx', ls', cs', rfl, hl1', hl2', hk1', hk2'⟩ := hB.six
  simp only [Tm.All, TmB, Tm.form, Tm.n, Tm.hid, Tm.name, Tm.lv, Tm.kids] at *
  simp only [allF, Bool.and_eq_true] at hca hcb
  obtain ⟨⟨_, _, a1, a2, a3, a4⟩, a5⟩ := ha
  have hsame : sameT (.mk f n hid s lv ks) (.mk f' n' hid' s' lv' ks') = if f = f' ∧ ks.length = ks'.length then fieldsEq f n n' hid hid' s s' lv lv' && sameK ks ks' else false := rfl
  refine SCall.val (SCall.intro mixed cf97 ?_)
  rw [hsame]
  have e1 : ¬ H.next = H.next + 1 := by omega
  have e2 : ¬ H.next + 1 = H.next := by omega
  have hE0 : ∀ o1 o2, Ext H ((H.new o1).new o2) := fun o1 o2 => ((Ext.refl H).new _).new _
  by_cases hf : f = f'
  case neg =>
    simp -implicitDefEqProofs only [c97, go_sem, Nat.reduceEqDiff, Nat.reduceAdd, Nat.reduceLeDiff, ↓reduceIte, reduceCtorEq, Int.reduceBEq, Int.reduceBNe, Int.reduceLT, Int.reduceLE, Int.reduceGT, Int.reduceGE, Int.reduceNeg, Int.reduceAdd, Int.reduceSub, Nat.reduceMul, Nat.reduceLT, Int.reduceToNat, hl1.one, hl1.cells, hk1.one, hk1.cells, hl1'.one, hl1'.cells, hk1'.one, hk1'.cells, e1, e2, bne' hf]
    exact ⟨by rw [if_neg (fun h => hf h.1)], hE0 _ _⟩
  by_cases hkl : ks.length = ks'.length
  case neg =>
    have hkb : ((ks.length : Int) == (ks'.length : Int)) = false := by rw [beq_eq_false_iff_ne]; omega
    have hfb : (f == f') = true := by simpa using hf
    simp -implicitDefEqProofs only [c97, go_sem, Nat.reduceEqDiff, Nat.reduceAdd, Nat.reduceLeDiff, ↓reduceIte, reduceCtorEq, Int.reduceBEq, Int.reduceBNe, Int.reduceLT, Int.reduceLE, Int.reduceGT, Int.reduceGE, Int.reduceNeg, Int.reduceAdd, Int.reduceSub, Nat.reduceMul, Nat.reduceLT, Int.reduceToNat, hl1.one, hl1.cells, hk1.one, hk1.cells, hl1'.one, hl1'.cells, hk1'.one, hk1'.cells, e1, e2, hfb, hkb, fun H => hk1.alen H, fun H => hk1'.alen H]
    exact ⟨by rw [if_neg (fun h => hkl h.2)], hE0 _ _⟩
  have hkb : ((ks.length : Int) == (ks'.length : Int)) = true := by rw [beq_iff_eq]; omega
  have hfb : (f == f') = true := by simpa using hf
  rw [if_pos ⟨hf, hkl⟩]
  simp -implicitDefEqProofs only [c97, s_seq, s_ops, s_draw, s_skip, s_ret, s_exit, i_nil, i_cons, i_run, i_runG, s_condQ, c_true, c_false, aop, ev_t, ev_c, updO_at, updO_no, upd_at, t_normal, t_ret, t_exit, b_normal, b_ret, b_exit, a_some, ac_v, ac_agg, ac_ptr, ac_slc, ac_ro, ac_rop, ac_fn, new_next, set_next, argTm_zero, argTm_succ, argTm_nil, ab_bool, ab_uv, beq_self_eq_true, Option.some_beq_some, Bool.not_not, beq_iff_eq, decide_true, decide_false, Bool.not_true, Bool.not_false, afld, aload, astore, apack, alen_str, alen_ro, alen_slc, alen_nil, new_get, set_get, ite_true, ite_false, Option.map_some, Option.bind_some, ibin, isShift, Nat.reduceEqDiff, Nat.add_zero, Nat.zero_add, List.length_cons, List.length_nil, Nat.reduceAdd, Nat.reduceLeDiff, List.drop_zero, List.drop_succ_cons, List.take_succ_cons, List.take_zero, if_true, if_false, ↓reduceIte, reduceCtorEq, setL, List.set_cons_zero, List.set_cons_succ, List.all_cons, List.all_nil, one_int, one_bool, one_str, one_nil, one_ptr, one_slc, one_ro, one_rop, one_fn, Bool.and_self, Bool.and_true, true_and, and_true, and_self, Bool.false_eq_true, post_ret, post_normal, resAll, resOne, packR, Option.some.injEq, exists_eq_left', List.map_cons, List.map_nil, List.nil_append, List.append_nil, List.cons_append, d_nil, d_cons, k_nil, k_cons, g_op, g_same, g_new, avBlock, forall_eq', List.getElem?_cons_succ, List.getElem?_cons_zero, List.getElem?_nil, okind, gOk, Int.reduceBEq, Int.reduceBNe, Int.reduceLT, Int.reduceLE, Int.reduceGT, Int.reduceGE, Int.reduceNeg, Int.reduceAdd, Int.reduceSub, bne, false_imp_iff, forall_const, imp_self, implies_true, true_imp_iff, Nat.reduceMul, Nat.reduceLT, Int.reduceToNat, i_callG, hl1.one, hl1.cells, hk1.one, hk1.cells, hl1'.one, hl1'.cells, hk1'.one, hk1'.cells, e1, e2, hfb, hkb, fun H => hk1.alen H, fun H => hk1'.alen H]
  generalize hG : ((H.new (.cells [aint f, aint n, abl hid, .v (.string s), lx, kx])).new (.cells [aint f', aint n', abl hid', .v (.string s'), lx', kx'])) = G
  have hE : Ext H G := by rw [← hG]; exact hE0 _ _
  have hg0 : G.get H.next = some (.cells [aint f, aint n, abl hid, .v (.string s), lx, kx]) := by rw [← hG]; simp -implicitDefEqProofs only [go_sem, Nat.reduceEqDiff, Nat.reduceAdd, Nat.reduceLeDiff, ↓reduceIte, reduceCtorEq, Int.reduceBEq, Int.reduceBNe, Int.reduceLT, Int.reduceLE, Int.reduceGT, Int.reduceGE, Int.reduceNeg, Int.reduceAdd, Int.reduceSub, Nat.reduceMul, Nat.reduceLT, Int.reduceToNat, e1]
  have hg1 : G.get (H.next + 1) = some (.cells [aint f', aint n', abl hid', .v (.string s'), lx', kx']) := by rw [← hG]; simp -implicitDefEqProofs only [go_sem, Nat.reduceEqDiff, Nat.reduceAdd, Nat.reduceLeDiff, ↓reduceIte, reduceCtorEq, Int.reduceBEq, Int.reduceBNe, Int.reduceLT, Int.reduceLE, Int.reduceGT, Int.reduceGE, Int.reduceNeg, Int.reduceAdd, Int.reduceSub, Nat.reduceMul, Nat.reduceLT, Int.reduceToNat]
  refine cutB (M := fun st => st.tm 2 = abl true ∧ st.tm 3 = .ptr H.next 0 ∧ st.tm 4 = .ptr (H.next + 1) 0 ∧ st.heap = G ∧ fieldsEq f n n' hid hid' s s' lv lv' = true) ?_ ?_
  · by_cases c1 : f = 1 ∨ f = 11
    · have hfe : fieldsEq f n n' hid hid' s s' lv lv' = (n == n') := by simp only [fieldsEq, if_pos c1]
      rw [hfe]
      cases hq : (n == n') with
      | true => rcases c1 with rfl | rfl <;> (simp -implicitDefEqProofs only [go_sem, Nat.reduceEqDiff, Nat.reduceAdd, Nat.reduceLeDiff, ↓reduceIte, reduceCtorEq, Int.reduceBEq, Int.reduceBNe, Int.reduceLT, Int.reduceLE, Int.reduceGT, Int.reduceGE, Int.reduceNeg, Int.reduceAdd, Int.reduceSub, Nat.reduceMul, Nat.reduceLT, Int.reduceToNat, hg0, hg1, hq])
      | false =>
        rcases c1 with rfl | rfl
        · simp -implicitDefEqProofs only [go_sem, Nat.reduceEqDiff, Nat.reduceAdd, Nat.reduceLeDiff, ↓reduceIte, reduceCtorEq, Int.reduceBEq, Int.reduceBNe, Int.reduceLT, Int.reduceLE, Int.reduceGT, Int.reduceGE, Int.reduceNeg, Int.reduceAdd, Int.reduceSub, Nat.reduceMul, Nat.reduceLT, Int.reduceToNat, hg0, hg1, hq]; exact ⟨by simp, hE⟩
        · simp -implicitDefEqProofs only [go_sem, Nat.reduceEqDiff, Nat.reduceAdd, Nat.reduceLeDiff, ↓reduceIte, reduceCtorEq, Int.reduceBEq, Int.reduceBNe, Int.reduceLT, Int.reduceLE, Int.reduceGT, Int.reduceGE, Int.reduceNeg, Int.reduceAdd, Int.reduceSub, Nat.reduceMul, Nat.reduceLT, Int.reduceToNat, hg0, hg1, hq]; exact ⟨by simp, hE⟩
    have n1 : ¬ f = 1 := fun h => c1 (.inl h)
    have n11 : ¬ f = 11 := fun h => c1 (.inr h)
    by_cases c2 : f = 3 ∨ f = 4 ∨ f = 5
    · have hfe : fieldsEq f n n' hid hid' s s' lv lv' = (hid == hid') := by simp only [fieldsEq, if_neg c1, if_pos c2]
      rw [hfe]
      cases hq : (hid == hid') with
      | true => rcases c2 with rfl | rfl | rfl <;> (simp -implicitDefEqProofs only [go_sem, Nat.reduceEqDiff, Nat.reduceAdd, Nat.reduceLeDiff, ↓reduceIte, reduceCtorEq, Int.reduceBEq, Int.reduceBNe, Int.reduceLT, Int.reduceLE, Int.reduceGT, Int.reduceGE, Int.reduceNeg, Int.reduceAdd, Int.reduceSub, Nat.reduceMul, Nat.reduceLT, Int.reduceToNat, hg0, hg1, hq])
      | false =>
        rcases c2 with rfl | rfl | rfl
        · simp -implicitDefEqProofs only [go_sem, Nat.reduceEqDiff, Nat.reduceAdd, Nat.reduceLeDiff, ↓reduceIte, reduceCtorEq, Int.reduceBEq, Int.reduceBNe, Int.reduceLT, Int.reduceLE, Int.reduceGT, Int.reduceGE, Int.reduceNeg, Int.reduceAdd, Int.reduceSub, Nat.reduceMul, Nat.reduceLT, Int.reduceToNat, hg0, hg1, hq]; exact ⟨by simp, hE⟩
        · simp -implicitDefEqProofs only [go_sem, Nat.reduceEqDiff, Nat.reduceAdd, Nat.reduceLeDiff, ↓reduceIte, reduceCtorEq, Int.reduceBEq, Int.reduceBNe, Int.reduceLT, Int.reduceLE, Int.reduceGT, Int.reduceGE, Int.reduceNeg, Int.reduceAdd, Int.reduceSub, Nat.reduceMul, Nat.reduceLT, Int.reduceToNat, hg0, hg1, hq]; exact ⟨by simp, hE⟩
        · simp -implicitDefEqProofs only [go_sem, Nat.reduceEqDiff, Nat.reduceAdd, Nat.reduceLeDiff, ↓reduceIte, reduceCtorEq, Int.reduceBEq, Int.reduceBNe, Int.reduceLT, Int.reduceLE, Int.reduceGT, Int.reduceGE, Int.reduceNeg, Int.reduceAdd, Int.reduceSub, Nat.reduceMul, Nat.reduceLT, Int.reduceToNat, hg0, hg1, hq]; exact ⟨by simp, hE⟩
    have n3 : ¬ f = 3 := fun h => c2 (.inl h)
    have n4 : ¬ f = 4 := fun h => c2 (.inr (.inl h))
    have n5 : ¬ f = 5 := fun h => c2 (.inr (.inr h))
    by_cases c3 : f = 2 ∨ f = 10
    · have cana := form_can hca.1 c3
      have canb := form_can hcb.1 (by rw [← hf]; exact c3)
      have hfe : fieldsEq f n n' hid hid' s s' lv lv' = if f = 10 ∧ sameS s s' = false then false else lvsEq lv lv' := by
        rcases c3 with rfl | rfl
        · rfl
        · simp only [fieldsEq]
          cases sameS s s' <;> rfl
      rw [hfe]
      by_cases hnm : f = 10 ∧ sameS s s' = false
      · have hs' : (s.data.toList == s'.data.toList) = false := hnm.2
        have hs2 := hnm.2
        obtain ⟨rfl, _⟩ := hnm
        simp -implicitDefEqProofs only [go_sem, Nat.reduceEqDiff, Nat.reduceAdd, Nat.reduceLeDiff, ↓reduceIte, reduceCtorEq, Int.reduceBEq, Int.reduceBNe, Int.reduceLT, Int.reduceLE, Int.reduceGT, Int.reduceGE, Int.reduceNeg, Int.reduceAdd, Int.reduceSub, Nat.reduceMul, Nat.reduceLT, Int.reduceToNat, hg0, hg1, sbin, hs']
        exact ⟨by simp [hs2], hE⟩
      rw [if_neg hnm]
      by_cases hll : lv.length = lv'.length
      case neg =>
        have hlb : ((lv.length : Int) == (lv'.length : Int)) = false := by rw [beq_eq_false_iff_ne]; omega
        rcases c3 with rfl | rfl
        · simp -implicitDefEqProofs only [go_sem, Nat.reduceEqDiff, Nat.reduceAdd, Nat.reduceLeDiff, ↓reduceIte, reduceCtorEq, Int.reduceBEq, Int.reduceBNe, Int.reduceLT, Int.reduceLE, Int.reduceGT, Int.reduceGE, Int.reduceNeg, Int.reduceAdd, Int.reduceSub, Nat.reduceMul, Nat.reduceLT, Int.reduceToNat, hg0, hg1, fun H => hl1.alen H, fun H => hl1'.alen H, hlb]
          exact ⟨by rw [lvsEq_len hll]; rfl, hE⟩
        · have hs' : (s.data.toList == s'.data.toList) = true := by
            cases hq : (s.data.toList == s'.data.toList) with
            | true => rfl
            | false => exact absurd ⟨rfl, hq⟩ hnm
          simp -implicitDefEqProofs only [go_sem, Nat.reduceEqDiff, Nat.reduceAdd, Nat.reduceLeDiff, ↓reduceIte, reduceCtorEq, Int.reduceBEq, Int.reduceBNe, Int.reduceLT, Int.reduceLE, Int.reduceGT, Int.reduceGE, Int.reduceNeg, Int.reduceAdd, Int.reduceSub, Nat.reduceMul, Nat.reduceLT, Int.reduceToNat, hg0, hg1, sbin, hs', fun H => hl1.alen H, fun H => hl1'.alen H, hlb]
          exact ⟨by rw [lvsEq_len hll]; rfl, hE⟩
      have hlb : ((lv.length : Int) == (lv'.length : Int)) = true := by rw [beq_iff_eq]; omega
      rcases c3 with rfl | rfl
      · simp -implicitDefEqProofs only [go_sem, Nat.reduceEqDiff, Nat.reduceAdd, Nat.reduceLeDiff, ↓reduceIte, reduceCtorEq, Int.reduceBEq, Int.reduceBNe, Int.reduceLT, Int.reduceLE, Int.reduceGT, Int.reduceGE, Int.reduceNeg, Int.reduceAdd, Int.reduceSub, Nat.reduceMul, Nat.reduceLT, Int.reduceToNat, hg0, hg1, fun H => hl1.alen H, fun H => hl1'.alen H, hlb]
        refine swp_range lv.length (fun i st => st.tm 2 = abl true ∧ st.tm 3 = .ptr H.next 0 ∧ st.tm 4 = .ptr (H.next + 1) 0 ∧ st.tm 7 = aint i ∧ st.heap = G ∧ lvsEq lv lv' = lvsEq (lv.drop i) (lv'.drop i)) ?_ ?_ ?_
        · exact ⟨rfl, rfl, rfl, rfl, rfl, by simp⟩
        · rintro i ⟨tm, H5⟩ hi ⟨t2, t3, t4, t7, hh, hr⟩
          simp only at t2 t3 t4 t7 hh
          subst hh
          have hltI : (i : Int) < (lv.length : Int) := by omega
          have hix := hl1.aix 2 hi
          have hix' := hl1'.aix 2 (i := i) (by omega)
          obtain ⟨vx, vs, hle, hld, hv1, hv2⟩ := hl2.at (List.getElem?_eq_getElem hi)
          obtain ⟨wx, ws, hle', hld', hw1, hw2⟩ := hl2'.at (List.getElem?_eq_getElem (i := i) (l := lv') (by omega))
          have w3 : IntKind.i64.wrap ((i : Int) + 1) = (i : Int) + 1 := i64_ok _ (by omega)
          rw [lvsEq_step hi (by omega)] at hr
          simp -implicitDefEqProofs only [go_sem, Nat.reduceEqDiff, Nat.reduceAdd, Nat.reduceLeDiff, ↓reduceIte, reduceCtorEq, Int.reduceBEq, Int.reduceBNe, Int.reduceLT, Int.reduceLE, Int.reduceGT, Int.reduceGE, Int.reduceNeg, Int.reduceAdd, Int.reduceSub, Nat.reduceMul, Nat.reduceLT, Int.reduceToNat, t2, t3, t4, t7, hg0, hg1, fun H => hl1.alen H, hltI, hix, hix', hle, hld, hle', hld']
          refine i_callA (fs := []) (cs := []) ?_ ?_ (sameLevel_ok lv[i] lv'[i] vx wx vs ws hv1 hv2 hw1 hw2 (cana _ (List.getElem_mem hi)) (canb _ (List.getElem_mem (by omega))) _) ?_
          · rfl
          · simp -implicitDefEqProofs only [go_sem, Nat.reduceEqDiff, Nat.reduceAdd, Nat.reduceLeDiff, ↓reduceIte, reduceCtorEq, Int.reduceBEq, Int.reduceBNe, Int.reduceLT, Int.reduceLE, Int.reduceGT, Int.reduceGE, Int.reduceNeg, Int.reduceAdd, Int.reduceSub, Nat.reduceMul, Nat.reduceLT, Int.reduceToNat]
          rintro x H3 ⟨rfl, rfl⟩
          cases hq : lvEq lv[i] lv'[i] with
          | true =>
            rw [hq, Bool.true_and] at hr
            simp -implicitDefEqProofs only [go_sem, Nat.reduceEqDiff, Nat.reduceAdd, Nat.reduceLeDiff, ↓reduceIte, reduceCtorEq, Int.reduceBEq, Int.reduceBNe, Int.reduceLT, Int.reduceLE, Int.reduceGT, Int.reduceGE, Int.reduceNeg, Int.reduceAdd, Int.reduceSub, Nat.reduceMul, Nat.reduceLT, Int.reduceToNat, t7, w3]
            exact ⟨t2, t3, t4, by simp, hr⟩
          | false =>
            rw [hq, Bool.false_and] at hr
            simp -implicitDefEqProofs only [go_sem, Nat.reduceEqDiff, Nat.reduceAdd, Nat.reduceLeDiff, ↓reduceIte, reduceCtorEq, Int.reduceBEq, Int.reduceBNe, Int.reduceLT, Int.reduceLE, Int.reduceGT, Int.reduceGE, Int.reduceNeg, Int.reduceAdd, Int.reduceSub, Nat.reduceMul, Nat.reduceLT, Int.reduceToNat]
            exact ⟨by rw [hr]; rfl, hE⟩
        · rintro ⟨tm, H5⟩ ⟨t2, t3, t4, t7, hh, hr⟩
          simp only at t2 t3 t4 t7 hh
          subst hh
          rw [List.drop_length, hll, List.drop_length] at hr
          simp -implicitDefEqProofs only [go_sem, Nat.reduceEqDiff, Nat.reduceAdd, Nat.reduceLeDiff, ↓reduceIte, reduceCtorEq, Int.reduceBEq, Int.reduceBNe, Int.reduceLT, Int.reduceLE, Int.reduceGT, Int.reduceGE, Int.reduceNeg, Int.reduceAdd, Int.reduceSub, Nat.reduceMul, Nat.reduceLT, Int.reduceToNat, t2, t3, t4, t7, hg0, fun H => hl1.alen H, Int.lt_irrefl]
          rw [hr]; rfl
      · have hs' : (s.data.toList == s'.data.toList) = true := by
          cases hq : (s.data.toList == s'.data.toList) with
          | true => rfl
          | false => exact absurd ⟨rfl, hq⟩ hnm
        simp -implicitDefEqProofs only [go_sem, Nat.reduceEqDiff, Nat.reduceAdd, Nat.reduceLeDiff, ↓reduceIte, reduceCtorEq, Int.reduceBEq, Int.reduceBNe, Int.reduceLT, Int.reduceLE, Int.reduceGT, Int.reduceGE, Int.reduceNeg, Int.reduceAdd, Int.reduceSub, Nat.reduceMul, Nat.reduceLT, Int.reduceToNat, hg0, hg1, sbin, hs', fun H => hl1.alen H, fun H => hl1'.alen H, hlb]
        refine swp_range lv.length (fun i st => st.tm 2 = abl true ∧ st.tm 3 = .ptr H.next 0 ∧ st.tm 4 = .ptr (H.next + 1) 0 ∧ st.tm 7 = aint i ∧ st.heap = G ∧ lvsEq lv lv' = lvsEq (lv.drop i) (lv'.drop i)) ?_ ?_ ?_
        · exact ⟨rfl, rfl, rfl, rfl, rfl, by simp⟩
        · rintro i ⟨tm, H5⟩ hi ⟨t2, t3, t4, t7, hh, hr⟩
          simp only at t2 t3 t4 t7 hh
          subst hh
          have hltI : (i : Int) < (lv.length : Int) := by omega
          have hix := hl1.aix 2 hi
          have hix' := hl1'.aix 2 (i := i) (by omega)
          obtain ⟨vx, vs, hle, hld, hv1, hv2⟩ := hl2.at (List.getElem?_eq_getElem hi)
          obtain ⟨wx, ws, hle', hld', hw1, hw2⟩ := hl2'.at (List.getElem?_eq_getElem (i := i) (l := lv') (by omega))
          have w3 : IntKind.i64.wrap ((i : Int) + 1) = (i : Int) + 1 := i64_ok _ (by omega)
          rw [lvsEq_step hi (by omega)] at hr
          simp -implicitDefEqProofs only [go_sem, Nat.reduceEqDiff, Nat.reduceAdd, Nat.reduceLeDiff, ↓reduceIte, reduceCtorEq, Int.reduceBEq, Int.reduceBNe, Int.reduceLT, Int.reduceLE, Int.reduceGT, Int.reduceGE, Int.reduceNeg, Int.reduceAdd, Int.reduceSub, Nat.reduceMul, Nat.reduceLT, Int.reduceToNat, t2, t3, t4, t7, hg0, hg1, fun H => hl1.alen H, hltI, hix, hix', hle, hld, hle', hld']
          refine i_callA (fs := []) (cs := []) ?_ ?_ (sameLevel_ok lv[i] lv'[i] vx wx vs ws hv1 hv2 hw1 hw2 (cana _ (List.getElem_mem hi)) (canb _ (List.getElem_mem (by omega))) _) ?_
          · rfl
          · simp -implicitDefEqProofs only [go_sem, Nat.reduceEqDiff, Nat.reduceAdd, Nat.reduceLeDiff, ↓reduceIte, reduceCtorEq, Int.reduceBEq, Int.reduceBNe, Int.reduceLT, Int.reduceLE, Int.reduceGT, Int.reduceGE, Int.reduceNeg, Int.reduceAdd, Int.reduceSub, Nat.reduceMul, Nat.reduceLT, Int.reduceToNat]
          rintro x H3 ⟨rfl, rfl⟩
          cases hq : lvEq lv[i] lv'[i] with
          | true =>
            rw [hq, Bool.true_and] at hr
            simp -implicitDefEqProofs only [go_sem, Nat.reduceEqDiff, Nat.reduceAdd, Nat.reduceLeDiff, ↓reduceIte, reduceCtorEq, Int.reduceBEq, Int.reduceBNe, Int.reduceLT, Int.reduceLE, Int.reduceGT, Int.reduceGE, Int.reduceNeg, Int.reduceAdd, Int.reduceSub, Nat.reduceMul, Nat.reduceLT, Int.reduceToNat, t7, w3]
            exact ⟨t2, t3, t4, by simp, hr⟩
          | false =>
            rw [hq, Bool.false_and] at hr
            simp -implicitDefEqProofs only [go_sem, Nat.reduceEqDiff, Nat.reduceAdd, Nat.reduceLeDiff, ↓reduceIte, reduceCtorEq, Int.reduceBEq, Int.reduceBNe, Int.reduceLT, Int.reduceLE, Int.reduceGT, Int.reduceGE, Int.reduceNeg, Int.reduceAdd, Int.reduceSub, Nat.reduceMul, Nat.reduceLT, Int.reduceToNat]
            exact ⟨by rw [hr]; rfl, hE⟩
        · rintro ⟨tm, H5⟩ ⟨t2, t3, t4, t7, hh, hr⟩
          simp only at t2 t3 t4 t7 hh
          subst hh
          rw [List.drop_length, hll, List.drop_length] at hr
          simp -implicitDefEqProofs only [go_sem, Nat.reduceEqDiff, Nat.reduceAdd, Nat.reduceLeDiff, ↓reduceIte, reduceCtorEq, Int.reduceBEq, Int.reduceBNe, Int.reduceLT, Int.reduceLE, Int.reduceGT, Int.reduceGE, Int.reduceNeg, Int.reduceAdd, Int.reduceSub, Nat.reduceMul, Nat.reduceLT, Int.reduceToNat, t2, t3, t4, t7, hg0, fun H => hl1.alen H, Int.lt_irrefl]
          rw [hr]; rfl
    have c3' : ¬ f = 2 := fun h => c3 (.inl h)
    have c4' : ¬ f = 10 := fun h => c3 (.inr h)
    have hfe : fieldsEq f n n' hid hid' s s' lv lv' = true := by simp only [fieldsEq, if_neg c1, if_neg c2, if_neg c3', if_neg c4']
    rw [hfe]
    simp -implicitDefEqProofs only [go_sem, Nat.reduceEqDiff, Nat.reduceAdd, Nat.reduceLeDiff, ↓reduceIte, reduceCtorEq, Int.reduceBEq, Int.reduceBNe, Int.reduceLT, Int.reduceLE, Int.reduceGT, Int.reduceGE, Int.reduceNeg, Int.reduceAdd, Int.reduceSub, Nat.reduceMul, Nat.reduceLT, Int.reduceToNat, bne' n1, bne' n11, bne' n3, bne' n4, bne' n5, bne' c3', bne' c4']
  rintro ⟨tm, H2⟩ ⟨t2, t3, t4, hh, hfe⟩
  simp only at t2 t3 t4 hh
  subst hh
  rw [hfe, Bool.true_and]
  simp -implicitDefEqProofs only [go_sem, Nat.reduceEqDiff, Nat.reduceAdd, Nat.reduceLeDiff, ↓reduceIte, reduceCtorEq, Int.reduceBEq, Int.reduceBNe, Int.reduceLT, Int.reduceLE, Int.reduceGT, Int.reduceGE, Int.reduceNeg, Int.reduceAdd, Int.reduceSub, Nat.reduceMul, Nat.reduceLT, Int.reduceToNat, t2, t3, t4]
  refine swp_range ks.length (fun i st => st.tm 2 = abl true ∧ st.tm 3 = .ptr H.next 0 ∧ st.tm 4 = .ptr (H.next + 1) 0 ∧ st.tm 9 = aint i ∧ st.heap = H2 ∧ sameK ks ks' = sameK (ks.drop i) (ks'.drop i)) ?_ ?_ ?_
  · refine ⟨?_, ?_, ?_, rfl, rfl, by simp⟩
    all_goals simp -implicitDefEqProofs only [go_sem, Nat.reduceEqDiff, Nat.reduceAdd, Nat.reduceLeDiff, ↓reduceIte, reduceCtorEq, Int.reduceBEq, Int.reduceBNe, Int.reduceLT, Int.reduceLE, Int.reduceGT, Int.reduceGE, Int.reduceNeg, Int.reduceAdd, Int.reduceSub, Nat.reduceMul, Nat.reduceLT, Int.reduceToNat, t2, t3, t4]
  · rintro i ⟨tm, H5⟩ hi ⟨t2, t3, t4, t9, hh, hr⟩
    simp only at t2 t3 t4 t9 hh
    subst hh
    have hltI : (i : Int) < (ks.length : Int) := by omega
    have hix := hk1.aix 6 hi
    have hix' := hk1'.aix 6 (i := i) (by omega)
    obtain ⟨kc, hkc, hle, hld⟩ := hk2.load (List.getElem?_eq_getElem hi)
    obtain ⟨kc', hkc', hle', hld'⟩ := hk2'.load (List.getElem?_eq_getElem (i := i) (l := ks') (by omega))
    have w3 : IntKind.i64.wrap ((i : Int) + 1) = (i : Int) + 1 := i64_ok _ (by omega)
    have hmem := List.getElem_mem hi
    have hmem' : ks'[i] ∈ ks' := List.getElem_mem (by omega)
    rw [sameK_step hi (by omega)] at hr
    simp -implicitDefEqProofs only [go_sem, Nat.reduceEqDiff, Nat.reduceAdd, Nat.reduceLeDiff, ↓reduceIte, reduceCtorEq, Int.reduceBEq, Int.reduceBNe, Int.reduceLT, Int.reduceLE, Int.reduceGT, Int.reduceGE, Int.reduceNeg, Int.reduceAdd, Int.reduceSub, Nat.reduceMul, Nat.reduceLT, Int.reduceToNat, t2, t3, t4, t9, hg0, hg1, fun H => hk1.alen H, hltI, hix, hix', hle, hld, hle', hld']
    refine i_callA (fs := []) (cs := []) ?_ ?_ (ih ks[i] hmem (a5.mem _ hmem) (allK_mem hca.2 hmem) ks'[i] (allK_mem hcb.2 hmem') _ _ hkc hkc' _) ?_
    · rfl
    · simp -implicitDefEqProofs only [go_sem, Nat.reduceEqDiff, Nat.reduceAdd, Nat.reduceLeDiff, ↓reduceIte, reduceCtorEq, Int.reduceBEq, Int.reduceBNe, Int.reduceLT, Int.reduceLE, Int.reduceGT, Int.reduceGE, Int.reduceNeg, Int.reduceAdd, Int.reduceSub, Nat.reduceMul, Nat.reduceLT, Int.reduceToNat, t2]
    rintro x H3 ⟨rfl, rfl⟩
    cases hq : sameT ks[i] ks'[i] with
    | true =>
      rw [hq, Bool.true_and] at hr
      simp -implicitDefEqProofs only [go_sem, Nat.reduceEqDiff, Nat.reduceAdd, Nat.reduceLeDiff, ↓reduceIte, reduceCtorEq, Int.reduceBEq, Int.reduceBNe, Int.reduceLT, Int.reduceLE, Int.reduceGT, Int.reduceGE, Int.reduceNeg, Int.reduceAdd, Int.reduceSub, Nat.reduceMul, Nat.reduceLT, Int.reduceToNat, t9, w3]
      exact ⟨t2, t3, t4, by simp, hr⟩
    | false =>
      rw [hq, Bool.false_and] at hr
      simp -implicitDefEqProofs only [go_sem, Nat.reduceEqDiff, Nat.reduceAdd, Nat.reduceLeDiff, ↓reduceIte, reduceCtorEq, Int.reduceBEq, Int.reduceBNe, Int.reduceLT, Int.reduceLE, Int.reduceGT, Int.reduceGE, Int.reduceNeg, Int.reduceAdd, Int.reduceSub, Nat.reduceMul, Nat.reduceLT, Int.reduceToNat]
      exact ⟨by rw [hr], hE⟩
  · rintro ⟨tm, H5⟩ ⟨t2, t3, t4, t9, hh, hr⟩
    simp only at t2 t3 t4 t9 hh
    subst hh
    rw [List.drop_length, sameK] at hr
    simp -implicitDefEqProofs only [go_sem, Nat.reduceEqDiff, Nat.reduceAdd, Nat.reduceLeDiff, ↓reduceIte, reduceCtorEq, Int.reduceBEq, Int.reduceBNe, Int.reduceLT, Int.reduceLE, Int.reduceGT, Int.reduceGE, Int.reduceNeg, Int.reduceAdd, Int.reduceSub, Nat.reduceMul, Nat.reduceLT, Int.reduceToNat, t2, t3, t4, t9, hg0, fun H => hk1.alen H, Int.lt_irrefl]
    exact ⟨by rw [hr], hE⟩

set_option maxRecDepth 100000 in
theorem same2_ok (a b : Tm) (ha : Tm.All TmB a) (hb : Tm.All TmB b) (fa : Tm.All (Fine2 canF) a) (fb : Tm.All (Fine2 canF) b) (ac bc : List AV) (hA : TmR a ac) (hB : TmR b bc) (H : AHeap) :
    SCall Try.prog 44 [.agg ac, .agg bc] H fun x H' => x = abl (sameF canF a b) ∧ H' = H := by
  have hA' := hA
  have hB' := hB
  obtain ⟨lx, kx, ls, cs, rfl, hl1, hl2, hk1, hk2⟩ := hA.six
  obtain ⟨lx', kx', ls', cs', rfl, hl1', hl2', hk1', hk2'⟩ := hB.six
  refine SCall.val (SCall.intro mixed cf44 ?_)
  have e1 : ¬ H.next = H.next + 1 := by omega
  have e2 : ¬ H.next + 1 = H.next := by omega
  have hE0 : ∀ o1 o2, Ext H ((H.new o1).new o2) := fun o1 o2 => ((Ext.refl H).new _).new _
  simp -implicitDefEqProofs only [c44, go_sem, Nat.reduceEqDiff, Nat.reduceAdd, Nat.reduceLeDiff, ↓reduceIte, reduceCtorEq, Int.reduceBEq, Int.reduceBNe, Int.reduceLT, Int.reduceLE, Int.reduceGT, Int.reduceGE, Int.reduceNeg, Int.reduceAdd, Int.reduceSub, Nat.reduceMul, Nat.reduceLT, Int.reduceToNat, hl1.one, hl1.cells, hk1.one, hk1.cells, hl1'.one, hl1'.cells, hk1'.one, hk1'.cells, e1, e2]
  refine i_callA (fs := []) (cs := []) ?_ ?_ (check2_ok canF a fa _ hA' _) ?_
  · rfl
  · simp -implicitDefEqProofs only [go_sem, Nat.reduceEqDiff, Nat.reduceAdd, Nat.reduceLeDiff, ↓reduceIte, reduceCtorEq, Int.reduceBEq, Int.reduceBNe, Int.reduceLT, Int.reduceLE, Int.reduceGT, Int.reduceGE, Int.reduceNeg, Int.reduceAdd, Int.reduceSub, Nat.reduceMul, Nat.reduceLT, Int.reduceToNat]
  rintro x H3 ⟨rfl, rfl⟩
  rw [check_same]
  by_cases c1 : checkF canF a = 0
  case neg =>
    simp -implicitDefEqProofs only [go_sem, Nat.reduceEqDiff, Nat.reduceAdd, Nat.reduceLeDiff, ↓reduceIte, reduceCtorEq, Int.reduceBEq, Int.reduceBNe, Int.reduceLT, Int.reduceLE, Int.reduceGT, Int.reduceGE, Int.reduceNeg, Int.reduceAdd, Int.reduceSub, Nat.reduceMul, Nat.reduceLT, Int.reduceToNat, bne' c1]
    exact ⟨by simp [sameF, c1], hE0 _ _⟩
  have p1 := (check_form c1).2
  rw [c1]
  simp -implicitDefEqProofs only [go_sem, Nat.reduceEqDiff, Nat.reduceAdd, Nat.reduceLeDiff, ↓reduceIte, reduceCtorEq, Int.reduceBEq, Int.reduceBNe, Int.reduceLT, Int.reduceLE, Int.reduceGT, Int.reduceGE, Int.reduceNeg, Int.reduceAdd, Int.reduceSub, Nat.reduceMul, Nat.reduceLT, Int.reduceToNat, e1, e2]
  refine i_callA (fs := []) (cs := []) ?_ ?_ (check2_ok canF b fb _ hB' _) ?_
  · rfl
  · simp -implicitDefEqProofs only [go_sem, Nat.reduceEqDiff, Nat.reduceAdd, Nat.reduceLeDiff, ↓reduceIte, reduceCtorEq, Int.reduceBEq, Int.reduceBNe, Int.reduceLT, Int.reduceLE, Int.reduceGT, Int.reduceGE, Int.reduceNeg, Int.reduceAdd, Int.reduceSub, Nat.reduceMul, Nat.reduceLT, Int.reduceToNat]
  rintro x H3 ⟨rfl, rfl⟩
  rw [check_same]
  by_cases c2 : checkF canF b = 0
  case neg =>
    simp -implicitDefEqProofs only [go_sem, Nat.reduceEqDiff, Nat.reduceAdd, Nat.reduceLeDiff, ↓reduceIte, reduceCtorEq, Int.reduceBEq, Int.reduceBNe, Int.reduceLT, Int.reduceLE, Int.reduceGT, Int.reduceGE, Int.reduceNeg, Int.reduceAdd, Int.reduceSub, Nat.reduceMul, Nat.reduceLT, Int.reduceToNat, bne' c2]
    exact ⟨by simp [sameF, c2], hE0 _ _⟩
  have p2 := (check_form c2).2
  rw [c2]
  simp -implicitDefEqProofs only [go_sem, Nat.reduceEqDiff, Nat.reduceAdd, Nat.reduceLeDiff, ↓reduceIte, reduceCtorEq, Int.reduceBEq, Int.reduceBNe, Int.reduceLT, Int.reduceLE, Int.reduceGT, Int.reduceGE, Int.reduceNeg, Int.reduceAdd, Int.reduceSub, Nat.reduceMul, Nat.reduceLT, Int.reduceToNat, e1, e2]
  refine i_callA (fs := []) (cs := []) ?_ ?_ (rawSame2_ok a ha p1 b p2 _ _ hA' hB' _) ?_
  · rfl
  · simp -implicitDefEqProofs only [go_sem, Nat.reduceEqDiff, Nat.reduceAdd, Nat.reduceLeDiff, ↓reduceIte, reduceCtorEq, Int.reduceBEq, Int.reduceBNe, Int.reduceLT, Int.reduceLE, Int.reduceGT, Int.reduceGE, Int.reduceNeg, Int.reduceAdd, Int.reduceSub, Nat.reduceMul, Nat.reduceLT, Int.reduceToNat]
  rintro x H3 ⟨rfl, rfl⟩
  simp -implicitDefEqProofs only [go_sem, Nat.reduceEqDiff, Nat.reduceAdd, Nat.reduceLeDiff, ↓reduceIte, reduceCtorEq, Int.reduceBEq, Int.reduceBNe, Int.reduceLT, Int.reduceLE, Int.reduceGT, Int.reduceGE, Int.reduceNeg, Int.reduceAdd, Int.reduceSub, Nat.reduceMul, Nat.reduceLT, Int.reduceToNat]
  exact ⟨by simp [sameF, c1, c2], hE0 _ _⟩

theorem sameS_self (s : ByteArray) : sameS s s = true := beq_self_eq_true _
theorem lvsEq_self : ∀ l : List Lv, lvsEq l l = true
  | [] => rfl
  | x :: r => by rw [lvsEq, lvsEq_self r]; simp [lvEq]
theorem fieldsEq_self (f n : Int) (h : Bool) (s : ByteArray) (l : List Lv) : fieldsEq f n n h h s s l l = true := by
  unfold fieldsEq
  repeat' split
  all_goals simp [sameS_self, lvsEq_self]
theorem sameT_self : ∀ a, sameT a a = true := by
  refine Tm.rule fun f n hid s lv ks ih => ?_
  rw [sameT, if_pos ⟨rfl, rfl⟩]
  simp only [Tm.n, Tm.hid, Tm.name, Tm.lv, Tm.kids]
  rw [fieldsEq_self, Bool.true_and]
  have key : ∀ ks', (∀ k ∈ ks', k ∈ ks) → sameK ks' ks' = true := by
    intro ks'
    induction ks' with
    | nil => intro _; rfl
    | cons k r ih' => intro hm; rw [sameK, ih k (hm k (List.mem_cons_self ..)), ih' (fun k hk => hm k (List.mem_cons_of_mem _ hk))]; rfl
  exact key ks fun _ h => h

set_option maxRecDepth 100000 in
theorem law_same (a : Tm) (ha : Tm.All TmB a) (ac : List AV) (hA : TmR a ac) (_oa : ∀ y ∈ ac, Old 0 y) (b : Tm) (hb : Tm.All TmB b) (bc : List AV) (hB : TmR b bc) (_ob : ∀ y ∈ bc, Old 0 y) (H : AHeap) :
    SCall Try.prog 8 [.agg ac, .agg bc] H fun x H' => x = abl true ∧ H' = H := by
  have hA' := hA
  have hB' := hB
  obtain ⟨lx, kx, ls, cs, rfl, hl1, hl2, hk1, hk2⟩ := hA.six
  obtain ⟨lx', kx', ls', cs', rfl, hl1', hl2', hk1', hk2'⟩ := hB.six
  refine SCall.val (SCall.intro mixed cf8 ?_)
  have e1 : ¬ H.next = H.next + 1 := by omega
  have e2 : ¬ H.next + 1 = H.next := by omega
  have hE0 : ∀ o1 o2, Ext H ((H.new o1).new o2) := fun o1 o2 => ((Ext.refl H).new _).new _
  have fa := tmb_fine ha
  have fb := tmb_fine hb
  have ga := tmb_fine2 ha
  have gb := tmb_fine2 hb
  simp -implicitDefEqProofs only [c8, go_sem, Nat.reduceEqDiff, Nat.reduceAdd, Nat.reduceLeDiff, ↓reduceIte, reduceCtorEq, Int.reduceBEq, Int.reduceBNe, Int.reduceLT, Int.reduceLE, Int.reduceGT, Int.reduceGE, Int.reduceNeg, Int.reduceAdd, Int.reduceSub, Nat.reduceMul, Nat.reduceLT, Int.reduceToNat, hl1.one, hl1.cells, hk1.one, hk1.cells, hl1'.one, hl1'.cells, hk1'.one, hk1'.cells, e1, e2]
  refine i_callA (fs := []) (cs := []) ?_ ?_ (alive2_ok _) ?_
  · rfl
  · simp -implicitDefEqProofs only [go_sem, Nat.reduceEqDiff, Nat.reduceAdd, Nat.reduceLeDiff, ↓reduceIte, reduceCtorEq, Int.reduceBEq, Int.reduceBNe, Int.reduceLT, Int.reduceLE, Int.reduceGT, Int.reduceGE, Int.reduceNeg, Int.reduceAdd, Int.reduceSub, Nat.reduceMul, Nat.reduceLT, Int.reduceToNat]
  rintro x H3 ⟨rfl, rfl⟩
  simp -implicitDefEqProofs only [go_sem, Nat.reduceEqDiff, Nat.reduceAdd, Nat.reduceLeDiff, ↓reduceIte, reduceCtorEq, Int.reduceBEq, Int.reduceBNe, Int.reduceLT, Int.reduceLE, Int.reduceGT, Int.reduceGE, Int.reduceNeg, Int.reduceAdd, Int.reduceSub, Nat.reduceMul, Nat.reduceLT, Int.reduceToNat, e1, e2]
  refine i_callA (fs := []) (cs := []) ?_ ?_ (big_ok a ha _ hA' _) ?_
  · rfl
  · simp -implicitDefEqProofs only [go_sem, Nat.reduceEqDiff, Nat.reduceAdd, Nat.reduceLeDiff, ↓reduceIte, reduceCtorEq, Int.reduceBEq, Int.reduceBNe, Int.reduceLT, Int.reduceLE, Int.reduceGT, Int.reduceGE, Int.reduceNeg, Int.reduceAdd, Int.reduceSub, Nat.reduceMul, Nat.reduceLT, Int.reduceToNat]
  rintro x H3 ⟨rfl, rfl⟩
  cases h1 : bigF a with
  | true =>
    simp -implicitDefEqProofs only [go_sem, Nat.reduceEqDiff, Nat.reduceAdd, Nat.reduceLeDiff, ↓reduceIte, reduceCtorEq, Int.reduceBEq, Int.reduceBNe, Int.reduceLT, Int.reduceLE, Int.reduceGT, Int.reduceGE, Int.reduceNeg, Int.reduceAdd, Int.reduceSub, Nat.reduceMul, Nat.reduceLT, Int.reduceToNat, e1, e2]
    exact hE0 _ _
  | false =>
  simp -implicitDefEqProofs only [go_sem, Nat.reduceEqDiff, Nat.reduceAdd, Nat.reduceLeDiff, ↓reduceIte, reduceCtorEq, Int.reduceBEq, Int.reduceBNe, Int.reduceLT, Int.reduceLE, Int.reduceGT, Int.reduceGE, Int.reduceNeg, Int.reduceAdd, Int.reduceSub, Nat.reduceMul, Nat.reduceLT, Int.reduceToNat, e1, e2]
  refine i_callA (fs := []) (cs := []) ?_ ?_ (big_ok b hb _ hB' _) ?_
  · rfl
  · simp -implicitDefEqProofs only [go_sem, Nat.reduceEqDiff, Nat.reduceAdd, Nat.reduceLeDiff, ↓reduceIte, reduceCtorEq, Int.reduceBEq, Int.reduceBNe, Int.reduceLT, Int.reduceLE, Int.reduceGT, Int.reduceGE, Int.reduceNeg, Int.reduceAdd, Int.reduceSub, Nat.reduceMul, Nat.reduceLT, Int.reduceToNat]
  rintro x H3 ⟨rfl, rfl⟩
  cases h2 : bigF b with
  | true =>
    simp -implicitDefEqProofs only [go_sem, Nat.reduceEqDiff, Nat.reduceAdd, Nat.reduceLeDiff, ↓reduceIte, reduceCtorEq, Int.reduceBEq, Int.reduceBNe, Int.reduceLT, Int.reduceLE, Int.reduceGT, Int.reduceGE, Int.reduceNeg, Int.reduceAdd, Int.reduceSub, Nat.reduceMul, Nat.reduceLT, Int.reduceToNat, e1, e2]
    exact hE0 _ _
  | false =>
  simp -implicitDefEqProofs only [go_sem, Nat.reduceEqDiff, Nat.reduceAdd, Nat.reduceLeDiff, ↓reduceIte, reduceCtorEq, Int.reduceBEq, Int.reduceBNe, Int.reduceLT, Int.reduceLE, Int.reduceGT, Int.reduceGE, Int.reduceNeg, Int.reduceAdd, Int.reduceSub, Nat.reduceMul, Nat.reduceLT, Int.reduceToNat, e1, e2, g_opG]
  refine i_callA (fs := []) (cs := []) ?_ ?_ (same_ok a b ha hb fa fb _ _ hA' hB' _) ?_
  · rfl
  · simp -implicitDefEqProofs only [go_sem, Nat.reduceEqDiff, Nat.reduceAdd, Nat.reduceLeDiff, ↓reduceIte, reduceCtorEq, Int.reduceBEq, Int.reduceBNe, Int.reduceLT, Int.reduceLE, Int.reduceGT, Int.reduceGE, Int.reduceNeg, Int.reduceAdd, Int.reduceSub, Nat.reduceMul, Nat.reduceLT, Int.reduceToNat]
  rintro x H3 ⟨rfl, rfl⟩
  simp -implicitDefEqProofs only [go_sem, Nat.reduceEqDiff, Nat.reduceAdd, Nat.reduceLeDiff, ↓reduceIte, reduceCtorEq, Int.reduceBEq, Int.reduceBNe, Int.reduceLT, Int.reduceLE, Int.reduceGT, Int.reduceGE, Int.reduceNeg, Int.reduceAdd, Int.reduceSub, Nat.reduceMul, Nat.reduceLT, Int.reduceToNat, e1, e2, g_opG]
  refine i_callA (fs := []) (cs := []) ?_ ?_ (same2_ok a b ha hb ga gb _ _ hA' hB' _) ?_
  · rfl
  · simp -implicitDefEqProofs only [go_sem, Nat.reduceEqDiff, Nat.reduceAdd, Nat.reduceLeDiff, ↓reduceIte, reduceCtorEq, Int.reduceBEq, Int.reduceBNe, Int.reduceLT, Int.reduceLE, Int.reduceGT, Int.reduceGE, Int.reduceNeg, Int.reduceAdd, Int.reduceSub, Nat.reduceMul, Nat.reduceLT, Int.reduceToNat]
  rintro x H3 ⟨rfl, rfl⟩
  simp -implicitDefEqProofs only [go_sem, Nat.reduceEqDiff, Nat.reduceAdd, Nat.reduceLeDiff, ↓reduceIte, reduceCtorEq, Int.reduceBEq, Int.reduceBNe, Int.reduceLT, Int.reduceLE, Int.reduceGT, Int.reduceGE, Int.reduceNeg, Int.reduceAdd, Int.reduceSub, Nat.reduceMul, Nat.reduceLT, Int.reduceToNat, e1, e2, g_opG]
  refine i_callA (fs := []) (cs := []) ?_ ?_ (same_ok a a ha ha fa fa _ _ hA' hA' _) ?_
  · rfl
  · simp -implicitDefEqProofs only [go_sem, Nat.reduceEqDiff, Nat.reduceAdd, Nat.reduceLeDiff, ↓reduceIte, reduceCtorEq, Int.reduceBEq, Int.reduceBNe, Int.reduceLT, Int.reduceLE, Int.reduceGT, Int.reduceGE, Int.reduceNeg, Int.reduceAdd, Int.reduceSub, Nat.reduceMul, Nat.reduceLT, Int.reduceToNat]
  rintro x H3 ⟨rfl, rfl⟩
  simp -implicitDefEqProofs only [go_sem, Nat.reduceEqDiff, Nat.reduceAdd, Nat.reduceLeDiff, ↓reduceIte, reduceCtorEq, Int.reduceBEq, Int.reduceBNe, Int.reduceLT, Int.reduceLE, Int.reduceGT, Int.reduceGE, Int.reduceNeg, Int.reduceAdd, Int.reduceSub, Nat.reduceMul, Nat.reduceLT, Int.reduceToNat, e1, e2, g_opG]
  refine i_callA (fs := []) (cs := []) ?_ ?_ (check2_ok canF a ga _ hA' _) ?_
  · rfl
  · simp -implicitDefEqProofs only [go_sem, Nat.reduceEqDiff, Nat.reduceAdd, Nat.reduceLeDiff, ↓reduceIte, reduceCtorEq, Int.reduceBEq, Int.reduceBNe, Int.reduceLT, Int.reduceLE, Int.reduceGT, Int.reduceGE, Int.reduceNeg, Int.reduceAdd, Int.reduceSub, Nat.reduceMul, Nat.reduceLT, Int.reduceToNat]
  rintro x H3 ⟨rfl, rfl⟩
  rw [check_same]
  have hs : sameF canF a a = (checkF canF a == 0) := by
    unfold sameF
    by_cases c : checkF canF a = 0
    · rw [if_pos ⟨c, c⟩, sameT_self, c]; rfl
    · rw [if_neg (fun h => c h.1), bne' c]
  rw [hs]
  simp -implicitDefEqProofs only [go_sem, Nat.reduceEqDiff, Nat.reduceAdd, Nat.reduceLeDiff, ↓reduceIte, reduceCtorEq, Int.reduceBEq, Int.reduceBNe, Int.reduceLT, Int.reduceLE, Int.reduceGT, Int.reduceGE, Int.reduceNeg, Int.reduceAdd, Int.reduceSub, Nat.reduceMul, Nat.reduceLT, Int.reduceToNat, BEq.rfl]
  exact hE0 _ _
end Go.Proofs.Ytooaiddfokbffaa.E

/- The row TermSame: whatever the input, the law answers true. Conditions: none. -/
set_option linter.unusedVariables false
set_option linter.unusedSimpArgs false
namespace Go.Proofs.Ytooaiddfokbffaa.termSame
open Go.ChangeShapes Go.WideShapes Go.ChangeAt Go.RowKit
open Go.ChangeMaps (open_string shut_string)
set_option maxRecDepth 100000 in
theorem lifted (os : Os) (started : os.Started) (H : Type) (enc : TypeId × Value → H) :
    ReturnsInHanded {} Try.checked os 8 .any (Rows.termSameSpec.pre6 enc Try.prog Try.f8 Rows.termSameRow.domain false) (Rows.termSameSpec.post enc Try.prog Try.f8 false true false false) := by
  refine returnsInHanded_of_change_sized (C := Try.checked) E.own started (by kernel_rfl) Try.func8
    (ChangeSpec.witness6 (enc := enc) (C := Try.checked) false ⟨#[], #[.agg #[.int .i64 0, .int .i64 0, .bool false, .string ByteArray.empty, .slice none 0 0, .slice none 0 0], .agg #[.int .i64 0, .int .i64 0, .bool false, .string ByteArray.empty, .slice none 0 0, .slice none 0 0]], []⟩ 8 (by kernel_rfl) (by kernel_rfl) (by kernel_rfl) (by kernel_rfl)) ?_
  intro W base args ds gs before hval0 hW hcnd hsz0 _
  have hsz : (DataW.weightsEach Try.prog (Try.f8.params.toList ++ Rows.termSameSpec.plain.varTypes Try.prog) (ds ++ gs)).all (· ≤ reachBytes) = true := hsz0
  have hval : ∀ (j : Nat) t v, Try.f8.params[j]? = some t → args[j]? = some v → Value.okWide Try.prog W .any base t v := hval0
  have hW' := hW
  obtain ⟨p, q, hA0, hV, rfl, hfz, hnd⟩ := hW
  have hA : DataW.TrodAll enc Try.prog W 0 (fun _ => true) true Try.f8.params.toList args.toList ds p := hA0
  rw [Try.params8] at hA hval hsz
  obtain ⟨v0, vs0, d0, ds0, p0, q0, hargs, rfl, rfl, h0, r0⟩ := trodAll_cons hA
  obtain ⟨v1, vs1, d1, ds1, p1, q1, rfl, rfl, rfl, h1, r1⟩ := trodAll_cons r0
  obtain ⟨rfl, rfl, rfl⟩ := trodAll_nil r1
  obtain rfl : args = #[v0, v1] := by cases args; simp_all
  obtain ⟨rfl, rfl⟩ := trodVars_none hV
  have k0 := h0
  have lt0 : ∀ x ∈ p0, x.block < W.heap.size := by obtain ⟨m, hm⟩ := k0; exact DataW.trod_lt m _ _ _ hm
  obtain ⟨t0, y0, b0, c0, o0, w0⟩ := E.term_arg h0 (E.wt_arg hsz (j := 0) (t := 25) rfl rfl)
  have k1 := h1
  have lt1 : ∀ x ∈ p1, x.block < W.heap.size := by obtain ⟨m, hm⟩ := k1; exact DataW.trod_lt m _ _ _ hm
  obtain ⟨t1, y1, b1, c1, o1, w1⟩ := E.term_arg h1 (E.wt_arg hsz (j := 1) (t := 25) rfl rfl)
  clear hA0 hval0 hsz0 hsz
  refine (E.law_walk (E.law_same t0 b0 y0 c0 o0 t1 b1 y1 c1 o1 E.AHeap.empty) (E.LRel.cons w0 (E.LRel.cons w1 E.lrel_nil))).mono fun e W' ⟨he, bel⟩ => ?_
  subst he
  exact ⟨_, rfl, _, _, _, [], _, [], hW', trodAll_mk1 (shut_bool Try.underlying4 _), (trodAll_cons_mk (Below.trod E.laidOut (by kernel_rfl) (of_decide_eq_true (by kernel_rfl)) k0 bel lt0) (trodAll_cons_mk (Below.trod E.laidOut (by kernel_rfl) (of_decide_eq_true (by kernel_rfl)) k1 bel lt1) trodAll_mk0)), rfl, bel.frame _, fun h => by cases h⟩

theorem over : Rows.termSameRow.holds Try.pinned (OpenSpec.ofChange Rows.termSameSpec) :=
  OpenClaim.holds_of_wide 8 Try.f8 rfl rfl rfl rfl rfl rfl rfl ⟨rfl, rfl, rfl, rfl, rfl⟩ rfl rfl rfl rfl rfl (by kernel_rfl) Try.func8 (by kernel_rfl)
    (of_decide_eq_true (by kernel_rfl)) (by unfold Func.isWrapper; first | (rw [if_pos (by decide +kernel)]; kernel_rfl) | (rw [if_neg (by decide +kernel)]; exact ⟨rfl, rfl⟩))
    (fun os started H enc _ => lifted os started H enc)
theorem proved : Rows.TermSameSaid := over
end Go.Proofs.Ytooaiddfokbffaa.termSame
namespace Go.Proofs.Ytooaiddfokbffaa
/-- The row, under a short name, for the claim. -/
theorem termSame_holds : Rows.TermSameSaid := termSame.proved
#print axioms termSame_holds
end Go.Proofs.Ytooaiddfokbffaa
