/- Texts of the proof, one behind the other. Conditions: none. -/
import Derived.Test.YtooaiddfokbffaaA7
/- Levels put in for parameters, as the reference does it. Conditions: none. -/
set_option linter.unusedVariables false
set_option linter.unusedSimpArgs false
namespace Go.Proofs.Ytooaiddfokbffaa.E
open Go Go.Proofs
attribute [local go_sem] s_seq s_ops s_draw s_block s_skip s_ret s_exit i_nil i_cons i_run i_runG s_condQ c_true c_false aop ev_t ev_c updO_at updO_no upd_at t_normal t_ret t_exit b_normal b_ret b_exit a_some ac_v ac_agg ac_ptr ac_slc ac_ro ac_rop ac_fn new_next set_next argTm_zero argTm_succ argTm_nil ab_bool ab_uv beq_self_eq_true Option.some_beq_some Bool.not_not beq_iff_eq decide_true decide_false Bool.not_true Bool.not_false afld aload astore apack alen_str alen_ro alen_slc alen_nil new_get set_get ite_true ite_false Option.map_some Option.bind_some ibin isShift Nat.add_zero Nat.zero_add List.length_cons List.length_nil List.drop_zero List.drop_succ_cons List.take_succ_cons List.take_zero if_true if_false setL List.set_cons_zero List.set_cons_succ List.all_cons List.all_nil one_int one_bool one_str one_nil one_ptr one_slc one_ro one_rop one_fn Bool.and_self Bool.and_true true_and and_true and_self Bool.false_eq_true post_ret post_normal resAll resOne packR Option.some.injEq exists_eq_left' List.map_cons List.map_nil List.nil_append List.append_nil List.cons_append d_nil d_cons k_nil k_cons g_op g_same g_new avBlock forall_eq' List.getElem?_cons_succ List.getElem?_cons_zero List.getElem?_nil okind gOk bne false_imp_iff forall_const imp_self implies_true true_imp_iff i_callG

set_option maxRecDepth 100000 in
theorem fits2_ok (l : Lv) (hp : Pos l.vars) (vx : AV) (vs : List AV) (h1 : SlR l.vars.length vx vs) (h2 : VarsR l.vars vs) (hn : l.vars.length ≤ 10000) (H : AHeap) :
    SCall Try.prog 185 [.agg [aint l.n, vx]] H fun x H' => LvE (ToldF l).1 (ToldF l).2 x ∧ H' = H := by
  have main : SCall Try.prog 185 [.agg [aint l.n, vx]] H fun x H' => LvE (ToldF l).1 (ToldF l).2 x ∧ Ext H H' := by
    refine SCall.intro mixed cf185 ?_
    have e1 : ¬ H.next + 1 = H.next := by omega
    have e2 : ¬ H.next = H.next + 1 := by omega
    simp -implicitDefEqProofs only [c185, go_sem, Nat.reduceEqDiff, Nat.reduceAdd, Nat.reduceLeDiff, ↓reduceIte, reduceCtorEq, Int.reduceBEq, Int.reduceBNe, Int.reduceLT, Int.reduceLE, Int.reduceGT, Int.reduceGE, Int.reduceNeg, Int.reduceAdd, Int.reduceSub, Nat.reduceMul, Nat.reduceLT, Int.reduceToNat, h1.one, h1.cells, e1, e2]
    refine i_callA (fs := []) (cs := []) ?_ ?_ (tidy_ok l vx vs h1 h2 hn _) ?_
    · rfl
    · simp -implicitDefEqProofs only [go_sem, Nat.reduceEqDiff, Nat.reduceAdd, Nat.reduceLeDiff, ↓reduceIte, reduceCtorEq, Int.reduceBEq, Int.reduceBNe, Int.reduceLT, Int.reduceLE, Int.reduceGT, Int.reduceGE, Int.reduceNeg, Int.reduceAdd, Int.reduceSub, Nat.reduceMul, Nat.reduceLT, Int.reduceToNat]
    rw [tidyF_eq hp]
    rintro x H3 ⟨⟨y, rfl, hy⟩, rfl⟩
    obtain ⟨⟨c3, q1, q2⟩, q3⟩ := id hy
    have hnl := normV_len l.vars
    simp -implicitDefEqProofs only [go_sem, Nat.reduceEqDiff, Nat.reduceAdd, Nat.reduceLeDiff, ↓reduceIte, reduceCtorEq, Int.reduceBEq, Int.reduceBNe, Int.reduceLT, Int.reduceLE, Int.reduceGT, Int.reduceGE, Int.reduceNeg, Int.reduceAdd, Int.reduceSub, Nat.reduceMul, Nat.reduceLT, Int.reduceToNat, e1, e2, q1.one, q1.cells]
    refine i_callA (fs := []) (cs := []) ?_ ?_ (Norm2_ok (normF l) y c3 q1 q2 (by simp only [normF]; omega) _) ?_
    · rfl
    · simp -implicitDefEqProofs only [go_sem, Nat.reduceEqDiff, Nat.reduceAdd, Nat.reduceLeDiff, ↓reduceIte, reduceCtorEq, Int.reduceBEq, Int.reduceBNe, Int.reduceLT, Int.reduceLE, Int.reduceGT, Int.reduceGE, Int.reduceNeg, Int.reduceAdd, Int.reduceSub, Nat.reduceMul, Nat.reduceLT, Int.reduceToNat]
    have hT : NormF (normF l) = ToldF l := by unfold NormF ToldF; rw [norm_norm hp]
    rw [hT]
    rintro z H4 ⟨hz, hHH⟩
    subst hHH
    obtain ⟨yw, cw, rfl, hw4, hw5, hw6⟩ := hz.parts
    simp -implicitDefEqProofs only [go_sem, Nat.reduceEqDiff, Nat.reduceAdd, Nat.reduceLeDiff, ↓reduceIte, reduceCtorEq, Int.reduceBEq, Int.reduceBNe, Int.reduceLT, Int.reduceLE, Int.reduceGT, Int.reduceGE, Int.reduceNeg, Int.reduceAdd, Int.reduceSub, Nat.reduceMul, Nat.reduceLT, Int.reduceToNat, e1, e2, hw5.one, hw5.cells]
    exact ⟨⟨yw, rfl, hw4⟩, ((((Ext.refl H).new _).new _).set (by omega) _).set (by omega) _⟩
  exact main.frz fun _ _ x H' ⟨hx, hE⟩ _ => ⟨hE, x, .keep _ (hx.old _), hx⟩

set_option maxRecDepth 100000 in
theorem subR_ok (l : Lv) (vx : AV) (vs : List AV) (h1 : SlR l.vars.length vx vs) (h2 : VarsR l.vars vs) (hn : l.vars.length ≤ 4611686018427387904) (args : List Lv) (ax : AV) (as' : List AV) (ha1 : SlR args.length ax as') (ha2 : LvsR args as')
    (hal : args.length ≤ 4611686018427387904) (hav : ∀ a ∈ args, a.vars.length ≤ 4611686018427387904) (H : AHeap) :
    SCall Try.prog 149 [.agg [aint l.n, vx], ax] H fun x H' => LvE (SubRF l args).1 (SubRF l args).2 x ∧ H' = H := by
  have aal : ∀ G, alen G .slice ax = some args.length := fun G => ha1.alen G
  have main : SCall Try.prog 149 [.agg [aint l.n, vx], ax] H fun x H' => LvE (SubRF l args).1 (SubRF l args).2 x ∧ Ext H H' := by
    refine SCall.intro mixed cf149 ?_
    have e1 : ¬ H.next = H.next + 1 := by omega
    have e2 : ¬ H.next + 1 = H.next := by omega
    simp -implicitDefEqProofs only [c149, go_sem, Nat.reduceEqDiff, Nat.reduceAdd, Nat.reduceLeDiff, ↓reduceIte, reduceCtorEq, Int.reduceBEq, Int.reduceBNe, Int.reduceLT, Int.reduceLE, Int.reduceGT, Int.reduceGE, Int.reduceNeg, Int.reduceAdd, Int.reduceSub, Nat.reduceMul, Nat.reduceLT, Int.reduceToNat, h1.one, h1.cells, e1, e2]
    refine i_callA (fs := []) (cs := []) ?_ ?_ (Norm2_ok l vx vs h1 h2 hn _) ?_
    · rfl
    · simp -implicitDefEqProofs only [go_sem, Nat.reduceEqDiff, Nat.reduceAdd, Nat.reduceLeDiff, ↓reduceIte, reduceCtorEq, Int.reduceBEq, Int.reduceBNe, Int.reduceLT, Int.reduceLE, Int.reduceGT, Int.reduceGE, Int.reduceNeg, Int.reduceAdd, Int.reduceSub, Nat.reduceMul, Nat.reduceLT, Int.reduceToNat]
    cases hr : rightF l with
    | false =>
      have hNF : NormF l = (lv0, 13) := by simp [NormF, hr]
      have hS : SubRF l args = (lv0, 13) := if_neg (by simp [hr])
      rw [hNF, hS]
      rintro x H3 ⟨⟨y, rfl, hy⟩, rfl⟩
      obtain ⟨⟨c3, q1, q2⟩, q3⟩ := id hy
      simp -implicitDefEqProofs only [go_sem, Nat.reduceEqDiff, Nat.reduceAdd, Nat.reduceLeDiff, ↓reduceIte, reduceCtorEq, Int.reduceBEq, Int.reduceBNe, Int.reduceLT, Int.reduceLE, Int.reduceGT, Int.reduceGE, Int.reduceNeg, Int.reduceAdd, Int.reduceSub, Nat.reduceMul, Nat.reduceLT, Int.reduceToNat, q1.one, q1.cells, e1, e2, afill]
      exact ⟨⟨nils, rfl, slv_nil⟩, ((((Ext.refl H).new _).new _).set (by omega) _).set (by omega) _⟩
    | true =>
    have hNF : NormF l = (normF l, 0) := by simp [NormF, hr]
    obtain ⟨nr1, nr2, nr3⟩ := norm_right hr
    rw [hNF]
    rintro x H3 ⟨⟨y, rfl, hy⟩, rfl⟩
    obtain ⟨⟨c3, q1, q2⟩, q3⟩ := id hy
    have hlen := right_len hr
    have yal : ∀ G, alen G .slice y = some (normF l).vars.length := fun G => q1.alen G
    simp -implicitDefEqProofs only [go_sem, Nat.reduceEqDiff, Nat.reduceAdd, Nat.reduceLeDiff, ↓reduceIte, reduceCtorEq, Int.reduceBEq, Int.reduceBNe, Int.reduceLT, Int.reduceLE, Int.reduceGT, Int.reduceGE, Int.reduceNeg, Int.reduceAdd, Int.reduceSub, Nat.reduceMul, Nat.reduceLT, Int.reduceToNat, q1.one, q1.cells, e1, e2, aal]
    refine swp_range args.length (fun i st => st.tm 1 = ax ∧ st.tm 2 = .ptr H.next 0 ∧ st.tm 4 = .ptr (H.next + 1) 0 ∧ st.tm 7 = aint i ∧ H.next + 2 ≤ st.heap.next ∧ Ext H st.heap ∧ st.heap.get H.next = some (.cells [aint (normF l).n, y]) ∧ st.heap.get (H.next + 1) = some (.cells [aint 0, nils]) ∧
      args.all rightF = (args.drop i).all rightF) ?_ ?_ ?_
    · refine ⟨rfl, rfl, rfl, rfl, Nat.le_refl _, (((Ext.refl H).new _).new _).set (by omega) _, ?_, ?_, rfl⟩
      all_goals simp -implicitDefEqProofs only [go_sem, Nat.reduceEqDiff, Nat.reduceAdd, Nat.reduceLeDiff, ↓reduceIte, reduceCtorEq, Int.reduceBEq, Int.reduceBNe, Int.reduceLT, Int.reduceLE, Int.reduceGT, Int.reduceGE, Int.reduceNeg, Int.reduceAdd, Int.reduceSub, Nat.reduceMul, Nat.reduceLT, Int.reduceToNat, e1, e2]
    · rintro i ⟨tm, H2⟩ hi ⟨t1, t2, t4, t7, hnx, hE, g0, g1, hall⟩
      simp only at t1 t2 t4 t7 hnx hE g0 g1
      have hltI : (i : Int) < (args.length : Int) := by omega
      have hix := ha1.aix 2 hi
      obtain ⟨wx, ws, hle, hld, hw1, hw2⟩ := ha2.at (List.getElem?_eq_getElem hi)
      have w3 : IntKind.i64.wrap ((i : Int) + 1) = (i : Int) + 1 := i64_ok _ (by omega)
      have hdrop : args.drop i = args[i] :: args.drop (i + 1) := List.drop_eq_getElem_cons hi
      rw [hdrop, List.all_cons] at hall
      simp -implicitDefEqProofs only [go_sem, Nat.reduceEqDiff, Nat.reduceAdd, Nat.reduceLeDiff, ↓reduceIte, reduceCtorEq, Int.reduceBEq, Int.reduceBNe, Int.reduceLT, Int.reduceLE, Int.reduceGT, Int.reduceGE, Int.reduceNeg, Int.reduceAdd, Int.reduceSub, Nat.reduceMul, Nat.reduceLT, Int.reduceToNat, t1, t2, t4, t7, hltI, hix, hle, hld, hw1.one, hw1.cells, aal]
      refine i_callA (fs := []) (cs := []) (fid := 183) ?_ ?_ (right2_ok args[i] wx ws hw1 hw2 (hav _ (List.getElem_mem hi)) _) ?_
      · rfl
      · simp -implicitDefEqProofs only [go_sem, Nat.reduceEqDiff, Nat.reduceAdd, Nat.reduceLeDiff, ↓reduceIte, reduceCtorEq, Int.reduceBEq, Int.reduceBNe, Int.reduceLT, Int.reduceLE, Int.reduceGT, Int.reduceGE, Int.reduceNeg, Int.reduceAdd, Int.reduceSub, Nat.reduceMul, Nat.reduceLT, Int.reduceToNat]
      rintro x H4 ⟨rfl, rfl⟩
      cases hri : rightF args[i] with
      | true =>
        rw [hri, Bool.true_and] at hall
        simp -implicitDefEqProofs only [go_sem, Nat.reduceEqDiff, Nat.reduceAdd, Nat.reduceLeDiff, ↓reduceIte, reduceCtorEq, Int.reduceBEq, Int.reduceBNe, Int.reduceLT, Int.reduceLE, Int.reduceGT, Int.reduceGE, Int.reduceNeg, Int.reduceAdd, Int.reduceSub, Nat.reduceMul, Nat.reduceLT, Int.reduceToNat, t1, t2, t4, t7, g0, g1, w3]
        exact ⟨by simp, hnx, hE, hall⟩
      | false =>
        rw [hri, Bool.false_and] at hall
        have hS : SubRF l args = (lv0, 13) := if_neg (by simp [hall])
        rw [hS]
        simp -implicitDefEqProofs only [go_sem, Nat.reduceEqDiff, Nat.reduceAdd, Nat.reduceLeDiff, ↓reduceIte, reduceCtorEq, Int.reduceBEq, Int.reduceBNe, Int.reduceLT, Int.reduceLE, Int.reduceGT, Int.reduceGE, Int.reduceNeg, Int.reduceAdd, Int.reduceSub, Nat.reduceMul, Nat.reduceLT, Int.reduceToNat, t1, t2, t4, t7, g0, g1, afill]
        exact ⟨⟨nils, rfl, slv_nil⟩, hE.set (by omega) _⟩
    rintro ⟨tm, H1⟩ ⟨t1, t2, t4, t7, hnx1, hE1, g0, g1, hall⟩
    simp only at t1 t2 t4 t7 hnx1 hE1 g0 g1
    rw [List.drop_length] at hall
    have hall' : args.all rightF = true := hall
    have hS : SubRF l args = resF (refFold args (normF l).vars ⟨(normF l).n, []⟩) := if_pos ⟨hr, hall'⟩
    rw [hS]
    have hargs : ∀ a ∈ args, rightF a = true := fun a ha => List.all_eq_true.1 hall' a ha
    have k0 : ¬ H.next = H1.next := by omega
    have k1 : ¬ H.next + 1 = H1.next := by omega
    have k2 : ¬ H1.next = H.next + 1 := by omega
    have k3 : ¬ H1.next = H.next := by omega
    simp -implicitDefEqProofs only [go_sem, Nat.reduceEqDiff, Nat.reduceAdd, Nat.reduceLeDiff, ↓reduceIte, reduceCtorEq, Int.reduceBEq, Int.reduceBNe, Int.reduceLT, Int.reduceLE, Int.reduceGT, Int.reduceGE, Int.reduceNeg, Int.reduceAdd, Int.reduceSub, Nat.reduceMul, Nat.reduceLT, Int.reduceToNat, t1, t2, t4, t7, Int.lt_irrefl, g0, g1, q1.one, q1.cells, yal, aal, afill, k0, k1, k2, k3]
    refine swp_range (normF l).vars.length (fun i st => st.tm 1 = ax ∧ st.tm 2 = .ptr H.next 0 ∧ st.tm 4 = .ptr (H.next + 1) 0 ∧ st.tm 9 = .ptr H1.next 0 ∧ st.tm 10 = aint i ∧ H1.next + 1 ≤ st.heap.next ∧ Ext H st.heap ∧ st.heap.get H.next = some (.cells [aint (normF l).n, y]) ∧ st.heap.get (H.next + 1) = some (.cells [aint 0, nils]) ∧
      ∃ out xo, st.heap.get H1.next = some (.cells [aint out.n, xo]) ∧ OutS st.heap (H1.next + 1) 2 out.vars.length (varsC out.vars) xo ∧ out.vars.length ≤ 64 * i ∧ KPos out.vars ∧ 0 ≤ out.n ∧ out.n ≤ 2000 ∧ refFold args (normF l).vars ⟨(normF l).n, []⟩ = refFold args ((normF l).vars.drop i) out) ?_ ?_ ?_
    · refine ⟨?_, ?_, ?_, rfl, rfl, Nat.le_refl _, (hE1.new _).set (by omega) _, ?_, ?_, ⟨(normF l).n, []⟩, nils, ?_, .nil, Nat.le_refl _, (fun v hv => by cases hv), nr2.1, by simp only; omega, rfl⟩
      all_goals simp -implicitDefEqProofs only [go_sem, Nat.reduceEqDiff, Nat.reduceAdd, Nat.reduceLeDiff, ↓reduceIte, reduceCtorEq, Int.reduceBEq, Int.reduceBNe, Int.reduceLT, Int.reduceLE, Int.reduceGT, Int.reduceGE, Int.reduceNeg, Int.reduceAdd, Int.reduceSub, Nat.reduceMul, Nat.reduceLT, Int.reduceToNat, t1, t2, t4, k0, k1, g0, g1]
    · rintro i ⟨tm, H2⟩ hi ⟨t1, t2, t4, t9, t10, hnx, hE, g0, g1, out, xo, g9, hO, hol, hok, hon, hon2, hfold⟩
      simp only at t1 t2 t4 t9 t10 hnx hE g0 g1 g9 hO
      have hltI : (i : Int) < ((normF l).vars.length : Int) := by omega
      have hix := q1.aix 2 hi
      obtain ⟨hle, hld⟩ := q2.at hi
      have hvi := nr1 _ (List.getElem_mem hi)
      have w3 : IntKind.i64.wrap ((i : Int) + 1) = (i : Int) + 1 := i64_ok _ (by omega)
      have hdrop : (normF l).vars.drop i = (normF l).vars[i] :: (normF l).vars.drop (i + 1) := List.drop_eq_getElem_cons hi
      rw [hdrop, refFold] at hfold
      generalize hv : (normF l).vars[i] = v at *
      have m0 : ¬ H.next + 1 = H2.next := by omega
      have m1 : ¬ H1.next = H2.next := by omega
      have m2 : ¬ H2.next = H.next + 1 := by omega
      have m3 : ¬ H2.next = H1.next := by omega
      have m4 : ¬ H.next + 1 = H2.next + 1 := by omega
      have m5 : ¬ H1.next = H2.next + 1 := by omega
      have m6 : ¬ H2.next + 1 = H.next + 1 := by omega
      have m7 : ¬ H2.next + 1 = H1.next := by omega
      have m8 : ¬ H2.next = H2.next + 1 := by omega
      have m9 : ¬ H2.next + 1 = H2.next := by omega
      have m10 : ¬ H.next + 1 = H1.next := by omega
      have m11 : ¬ H1.next = H.next + 1 := by omega
      have m12 : ¬ H.next = H2.next := by omega
      have m13 : ¬ H2.next = H.next := by omega
      have m14 : ¬ H.next = H2.next + 1 := by omega
      have m15 : ¬ H2.next + 1 = H.next := by omega
      have m16 : ¬ H.next = H1.next := by omega
      by_cases hge : v.1 ≥ args.length
      · rw [if_pos hge] at hfold
        rw [hfold]
        simp -implicitDefEqProofs only [go_sem, Nat.reduceEqDiff, Nat.reduceAdd, Nat.reduceLeDiff, ↓reduceIte, reduceCtorEq, Int.reduceBEq, Int.reduceBNe, Int.reduceLT, Int.reduceLE, Int.reduceGT, Int.reduceGE, Int.reduceNeg, Int.reduceAdd, Int.reduceSub, Nat.reduceMul, Nat.reduceLT, Int.reduceToNat, t1, t2, t4, t9, t10, hltI, hix, hle, hld, aal, yal, hge, m0, m1, m2, m3, m12, m13, g0, g1, afill]
        exact ⟨⟨nils, rfl, slv_nil⟩, ((hE.new _).set (by omega) _).set (by omega) _⟩
      rw [if_neg hge] at hfold
      have hvn : ((v.1.toNat : Nat) : Int) = v.1 := by omega
      have hlt : v.1.toNat < args.length := by omega
      have hix2 := ha1.aix 2 hlt
      rw [hvn] at hix2
      obtain ⟨wx, ws, hle2, hld2, hw1, hw2⟩ := ha2.at (List.getElem?_eq_getElem hlt)
      have hargF : argF args v = args[v.1.toNat] := by
        unfold argF; rw [List.getD_eq_getElem?_getD, List.getElem?_eq_getElem hlt]; rfl
      rw [hargF] at hfold
      have hrx := hargs _ (List.getElem_mem hlt)
      generalize hxx : args[v.1.toNat] = xx at *
      have hxl := right_len hrx
      obtain ⟨xn1, xn2, xn3⟩ := norm_right hrx
      obtain ⟨rk1, rk2⟩ := refStep_ok hrx hvi.2.1 hok hon
      simp -implicitDefEqProofs only [go_sem, Nat.reduceEqDiff, Nat.reduceAdd, Nat.reduceLeDiff, ↓reduceIte, reduceCtorEq, Int.reduceBEq, Int.reduceBNe, Int.reduceLT, Int.reduceLE, Int.reduceGT, Int.reduceGE, Int.reduceNeg, Int.reduceAdd, Int.reduceSub, Nat.reduceMul, Nat.reduceLT, Int.reduceToNat, t1, t2, t4, t9, t10, hltI, hix, hle, hld, aal, yal, hge, m0, m1, m2, m3, m4, m5, m6, m7, m8, m9, m12, m13, m14, m15, g0, g1, hix2, hle2, hld2, hw1.one, hw1.cells]
      refine i_callA (fs := []) (cs := []) (fid := 184) ?_ ?_ (tidy_ok xx wx ws hw1 hw2 (by omega) _) ?_
      · rfl
      · simp -implicitDefEqProofs only [go_sem, Nat.reduceEqDiff, Nat.reduceAdd, Nat.reduceLeDiff, ↓reduceIte, reduceCtorEq, Int.reduceBEq, Int.reduceBNe, Int.reduceLT, Int.reduceLE, Int.reduceGT, Int.reduceGE, Int.reduceNeg, Int.reduceAdd, Int.reduceSub, Nat.reduceMul, Nat.reduceLT, Int.reduceToNat]
      rw [tidyF_eq (right_pos hrx)]
      rintro z H4 ⟨⟨yz, rfl, hyz⟩, hHH⟩
      have hHH := hHH.symm
      subst hHH
      obtain ⟨⟨cz, z1, z2⟩, z3⟩ := id hyz
      have zal : ∀ G, alen G .slice yz = some (normF xx).vars.length := fun G => z1.alen G
      have wq : IntKind.i64.wrap ((normF xx).n + v.2) = (normF xx).n + v.2 := i64_ok _ (by omega)
      have hn2000 : (refStep (normF xx) v.2 out).n ≤ 2000 := by
        simp only [refStep]; split <;> omega
      by_cases hq : (normF xx).n + v.2 > out.n
      case neg =>
        have hN : (refStep (normF xx) v.2 out).n = out.n := if_neg fun h => hq h.1
        simp -implicitDefEqProofs only [go_sem, Nat.reduceEqDiff, Nat.reduceAdd, Nat.reduceLeDiff, ↓reduceIte, reduceCtorEq, Int.reduceBEq, Int.reduceBNe, Int.reduceLT, Int.reduceLE, Int.reduceGT, Int.reduceGE, Int.reduceNeg, Int.reduceAdd, Int.reduceSub, Nat.reduceMul, Nat.reduceLT, Int.reduceToNat, t1, t2, t4, t9, t10, m0, m1, m2, m3, m4, m5, m6, m7, m8, m9, m10, m11, m12, m13, m14, m15, m16, g0, g1, g9, hO.one, hO.cells, z1.one, z1.cells, zal, wq, hq]
        refine swp_range (normF xx).vars.length (fun k st => st.tm 1 = ax ∧ st.tm 2 = .ptr H.next 0 ∧ st.tm 4 = .ptr (H.next + 1) 0 ∧ st.tm 9 = .ptr H1.next 0 ∧ st.tm 10 = aint i ∧ st.tm 11 = .ptr H2.next 0 ∧ st.tm 12 = .ptr (H2.next + 1) 0 ∧ st.tm 13 = aint k ∧ H2.next + 2 ≤ st.heap.next ∧ Ext H st.heap ∧ st.heap.get H.next = some (.cells [aint (normF l).n, y]) ∧ st.heap.get (H.next + 1) = some (.cells [aint 0, nils]) ∧
          st.heap.get H2.next = some (.cells [aint v.1, aint v.2]) ∧ st.heap.get (H2.next + 1) = some (.cells [aint (normF xx).n, yz]) ∧ ∃ xr, st.heap.get H1.next = some (.cells [aint (refStep (normF xx) v.2 out).n, xr]) ∧ OutS st.heap (H1.next + 1) 2 (out.vars.length + k) (varsC (out.vars ++ upV v.2 ((normF xx).vars.take k))) xr ∧
          (∀ off es' n' lo ex, xr ≠ .slc H2.next off es' n' lo ex) ∧ (∀ off es' n' lo ex, xr ≠ .slc (H2.next + 1) off es' n' lo ex)) ?_ ?_ ?_
        · refine ⟨?_, ?_, ?_, ?_, ?_, ?_, ?_, rfl, Nat.le_refl _, ((((hE.new _).set (by omega) _).new _).set (by omega) _), ?_, ?_, ?_, ?_, xo, ?_, ?_, hO.high (Nat.le_refl _), hO.high (by omega)⟩
          any_goals (simp -implicitDefEqProofs only [go_sem, Nat.reduceEqDiff, Nat.reduceAdd, Nat.reduceLeDiff, ↓reduceIte, reduceCtorEq, Int.reduceBEq, Int.reduceBNe, Int.reduceLT, Int.reduceLE, Int.reduceGT, Int.reduceGE, Int.reduceNeg, Int.reduceAdd, Int.reduceSub, Nat.reduceMul, Nat.reduceLT, Int.reduceToNat, t1, t2, t4, t9, t10, m0, m1, m2, m3, m4, m5, m6, m7, m8, m9, m10, m11, m12, m13, m14, m15, m16, g0, g1, g9, hO.one, hO.cells, z1.one, z1.cells, zal, wq, hN])
          have hz : varsC (out.vars ++ upV v.2 []) = varsC out.vars := by simp [upV]
          rw [hz]
          exact ((((hO.new _).set (hO.high (Nat.le_refl _)) _).new _).set (hO.high (by omega)) _)
        · rintro k ⟨tm, H5⟩ hk ⟨t1, t2, t4, t9, t10, t11, t12, t13, hnx5, hE5, g0, g1, g2, g3, xr, g9, hO5, hx1, hx2⟩
          simp only at t1 t2 t4 t9 t10 t11 t12 t13 hnx5 hE5 g0 g1 g2 g3 g9 hO5
          have hltK : (k : Int) < ((normF xx).vars.length : Int) := by omega
          have hixk := z1.aix 2 hk
          obtain ⟨hlek, hldk⟩ := z2.at hk
          have hki := xn1 _ (List.getElem_mem hk)
          have w4 : IntKind.i64.wrap ((k : Int) + 1) = (k : Int) + 1 := i64_ok _ (by omega)
          have w5 : IntKind.i64.wrap ((normF xx).vars[k].2 + v.2) = (normF xx).vars[k].2 + v.2 := i64_ok _ (by omega)
          have hle0 : k * 2 + 1 ≤ cz.length := by omega
          have hle1 : k * 2 + 1 + 1 ≤ cz.length := by omega
          have hld0 : (cz.drop (k * 2)).take 1 = [aint (normF xx).vars[k].1] := by
            have := congrArg (List.take 1) hldk
            rw [List.take_take] at this
            simpa using this
          have hld1 : (cz.drop (k * 2 + 1)).take 1 = [aint (normF xx).vars[k].2] := by
            have := congrArg (fun q => (List.drop 1 q).take 1) hldk
            simp only [List.drop_take, List.drop_drop, List.take_take] at this
            simpa using this
          simp -implicitDefEqProofs only [go_sem, Nat.reduceEqDiff, Nat.reduceAdd, Nat.reduceLeDiff, ↓reduceIte, reduceCtorEq, Int.reduceBEq, Int.reduceBNe, Int.reduceLT, Int.reduceLE, Int.reduceGT, Int.reduceGE, Int.reduceNeg, Int.reduceAdd, Int.reduceSub, Nat.reduceMul, Nat.reduceLT, Int.reduceToNat, t1, t2, t4, t9, t10, t11, t12, t13, g0, g1, g2, g3, g9, zal, hltK, hixk, hle0, hle1, hld0, hld1, w5, hO5.one, hO5.cells, z1.one, z1.cells, afill]
          refine (hO5.new _).stepN (m := 1) (new := [aint (normF xx).vars[k].1, aint ((normF xx).vars[k].2 + v.2)]) (asrc_slc (c := [aint (normF xx).vars[k].1, aint ((normF xx).vars[k].2 + v.2)]) (by rw [new_get]; exact if_pos rfl) (by simp)) rfl (by omega) (by omega) ⟨by omega, by omega⟩ rfl fun x' G' r6 r7 r8 => ?_
          rw [new_next] at r6 r7
          have hGo : ∀ b, b < H1.next + 1 → G'.get b = H5.get b := fun b hb => by
            rw [r8 b (by rw [new_next]; omega) (hO5.notlow hb), new_get, if_neg (by omega)]
          have v0 := (hGo _ (by omega)).trans g0
          have v1 := (hGo _ (by omega)).trans g1
          have v9 := (hGo _ (by omega)).trans g9
          have v2 : G'.get H2.next = some (.cells [aint v.1, aint v.2]) := by rw [r8 _ (by rw [new_next]; omega) hx1, new_get, if_neg (by omega)]; exact g2
          have v3 : G'.get (H2.next + 1) = some (.cells [aint (normF xx).n, yz]) := by rw [r8 _ (by rw [new_next]; omega) hx2, new_get, if_neg (by omega)]; exact g3
          simp -implicitDefEqProofs only [go_sem, Nat.reduceEqDiff, Nat.reduceAdd, Nat.reduceLeDiff, ↓reduceIte, reduceCtorEq, Int.reduceBEq, Int.reduceBNe, Int.reduceLT, Int.reduceLE, Int.reduceGT, Int.reduceGE, Int.reduceNeg, Int.reduceAdd, Int.reduceSub, Nat.reduceMul, Nat.reduceLT, Int.reduceToNat, t1, t2, t4, t9, t10, t11, t12, t13, v9, w4, hO5.one, hO5.cells, r6.one, r6.cells, m1, m3, m5, m7, m10, m11, m16]
          have hvk : varsC (out.vars ++ upV v.2 ((normF xx).vars.take (k + 1))) = varsC (out.vars ++ upV v.2 ((normF xx).vars.take k)) ++ [aint (normF xx).vars[k].1, aint ((normF xx).vars[k].2 + v.2)] := by
            rw [List.take_succ_eq_append_getElem hk, upV, upV, List.map_append, varsC_append, varsC_append, varsC_append, List.append_assoc]; rfl
          refine ⟨by simp, by omega, Ext.set ⟨by have := hE5.1; omega, fun b hb => by rw [hGo b (by omega)]; exact hE5.2 b hb⟩ (by omega) _, v0, v1, v2, v3, x', rfl, ?_, r6.notlow (by omega), r6.notlow (by omega)⟩
          rw [hvk]
          exact (r6.low (by omega)).set (r6.notlow (by omega)) _
        · rintro ⟨tm, H5⟩ ⟨t1, t2, t4, t9, t10, t11, t12, t13, hnx5, hE5, g0, g1, g2, g3, xr, g9, hO5, hx1, hx2⟩
          simp only at t1 t2 t4 t9 t10 t11 t12 t13 hnx5 hE5 g0 g1 g2 g3 g9 hO5
          rw [List.take_length] at hO5
          simp -implicitDefEqProofs only [go_sem, Nat.reduceEqDiff, Nat.reduceAdd, Nat.reduceLeDiff, ↓reduceIte, reduceCtorEq, Int.reduceBEq, Int.reduceBNe, Int.reduceLT, Int.reduceLE, Int.reduceGT, Int.reduceGE, Int.reduceNeg, Int.reduceAdd, Int.reduceSub, Nat.reduceMul, Nat.reduceLT, Int.reduceToNat, t1, t2, t4, t9, t10, t11, t12, t13, Int.lt_irrefl, g0, g1, g2, g3, g9, zal, w3]
          have hvl : (refStep (normF xx) v.2 out).vars.length = out.vars.length + (normF xx).vars.length := by simp [refStep, upV]
          refine ⟨by simp, by omega, hE5, refStep (normF xx) v.2 out, xr, rfl, ?_, by omega, rk1, rk2, hn2000, hfold⟩
          rw [hvl]
          exact hO5
      by_cases hx0 : (normF xx).n > 0
      · have hN : (refStep (normF xx) v.2 out).n = (normF xx).n + v.2 := if_pos ⟨hq, .inl hx0⟩
        simp -implicitDefEqProofs only [go_sem, Nat.reduceEqDiff, Nat.reduceAdd, Nat.reduceLeDiff, ↓reduceIte, reduceCtorEq, Int.reduceBEq, Int.reduceBNe, Int.reduceLT, Int.reduceLE, Int.reduceGT, Int.reduceGE, Int.reduceNeg, Int.reduceAdd, Int.reduceSub, Nat.reduceMul, Nat.reduceLT, Int.reduceToNat, t1, t2, t4, t9, t10, m0, m1, m2, m3, m4, m5, m6, m7, m8, m9, m10, m11, m12, m13, m14, m15, m16, g0, g1, g9, hO.one, hO.cells, z1.one, z1.cells, zal, wq, hq, hx0]
        refine swp_range (normF xx).vars.length (fun k st => st.tm 1 = ax ∧ st.tm 2 = .ptr H.next 0 ∧ st.tm 4 = .ptr (H.next + 1) 0 ∧ st.tm 9 = .ptr H1.next 0 ∧ st.tm 10 = aint i ∧ st.tm 11 = .ptr H2.next 0 ∧ st.tm 12 = .ptr (H2.next + 1) 0 ∧ st.tm 13 = aint k ∧ H2.next + 2 ≤ st.heap.next ∧ Ext H st.heap ∧ st.heap.get H.next = some (.cells [aint (normF l).n, y]) ∧ st.heap.get (H.next + 1) = some (.cells [aint 0, nils]) ∧
          st.heap.get H2.next = some (.cells [aint v.1, aint v.2]) ∧ st.heap.get (H2.next + 1) = some (.cells [aint (normF xx).n, yz]) ∧ ∃ xr, st.heap.get H1.next = some (.cells [aint (refStep (normF xx) v.2 out).n, xr]) ∧ OutS st.heap (H1.next + 1) 2 (out.vars.length + k) (varsC (out.vars ++ upV v.2 ((normF xx).vars.take k))) xr ∧
          (∀ off es' n' lo ex, xr ≠ .slc H2.next off es' n' lo ex) ∧ (∀ off es' n' lo ex, xr ≠ .slc (H2.next + 1) off es' n' lo ex)) ?_ ?_ ?_
        · refine ⟨?_, ?_, ?_, ?_, ?_, ?_, ?_, rfl, Nat.le_refl _, (((((hE.new _).set (by omega) _).new _).set (by omega) _).set (by omega) _), ?_, ?_, ?_, ?_, xo, ?_, ?_, hO.high (Nat.le_refl _), hO.high (by omega)⟩
          any_goals (simp -implicitDefEqProofs only [go_sem, Nat.reduceEqDiff, Nat.reduceAdd, Nat.reduceLeDiff, ↓reduceIte, reduceCtorEq, Int.reduceBEq, Int.reduceBNe, Int.reduceLT, Int.reduceLE, Int.reduceGT, Int.reduceGE, Int.reduceNeg, Int.reduceAdd, Int.reduceSub, Nat.reduceMul, Nat.reduceLT, Int.reduceToNat, t1, t2, t4, t9, t10, m0, m1, m2, m3, m4, m5, m6, m7, m8, m9, m10, m11, m12, m13, m14, m15, m16, g0, g1, g9, hO.one, hO.cells, z1.one, z1.cells, zal, wq, hN])
          have hz : varsC (out.vars ++ upV v.2 []) = varsC out.vars := by simp [upV]
          rw [hz]
          exact (((((hO.new _).set (hO.high (Nat.le_refl _)) _).new _).set (hO.high (by omega)) _).set (hO.notlow (by omega)) _)
        · rintro k ⟨tm, H5⟩ hk ⟨t1, t2, t4, t9, t10, t11, t12, t13, hnx5, hE5, g0, g1, g2, g3, xr, g9, hO5, hx1, hx2⟩
          simp only at t1 t2 t4 t9 t10 t11 t12 t13 hnx5 hE5 g0 g1 g2 g3 g9 hO5
          have hltK : (k : Int) < ((normF xx).vars.length : Int) := by omega
          have hixk := z1.aix 2 hk
          obtain ⟨hlek, hldk⟩ := z2.at hk
          have hki := xn1 _ (List.getElem_mem hk)
          have w4 : IntKind.i64.wrap ((k : Int) + 1) = (k : Int) + 1 := i64_ok _ (by omega)
          have w5 : IntKind.i64.wrap ((normF xx).vars[k].2 + v.2) = (normF xx).vars[k].2 + v.2 := i64_ok _ (by omega)
          have hle0 : k * 2 + 1 ≤ cz.length := by omega
          have hle1 : k * 2 + 1 + 1 ≤ cz.length := by omega
          have hld0 : (cz.drop (k * 2)).take 1 = [aint (normF xx).vars[k].1] := by
            have := congrArg (List.take 1) hldk
            rw [List.take_take] at this
            simpa using this
          have hld1 : (cz.drop (k * 2 + 1)).take 1 = [aint (normF xx).vars[k].2] := by
            have := congrArg (fun q => (List.drop 1 q).take 1) hldk
            simp only [List.drop_take, List.drop_drop, List.take_take] at this
            simpa using this
          simp -implicitDefEqProofs only [go_sem, Nat.reduceEqDiff, Nat.reduceAdd, Nat.reduceLeDiff, ↓reduceIte, reduceCtorEq, Int.reduceBEq, Int.reduceBNe, Int.reduceLT, Int.reduceLE, Int.reduceGT, Int.reduceGE, Int.reduceNeg, Int.reduceAdd, Int.reduceSub, Nat.reduceMul, Nat.reduceLT, Int.reduceToNat, t1, t2, t4, t9, t10, t11, t12, t13, g0, g1, g2, g3, g9, zal, hltK, hixk, hle0, hle1, hld0, hld1, w5, hO5.one, hO5.cells, z1.one, z1.cells, afill]
          refine (hO5.new _).stepN (m := 1) (new := [aint (normF xx).vars[k].1, aint ((normF xx).vars[k].2 + v.2)]) (asrc_slc (c := [aint (normF xx).vars[k].1, aint ((normF xx).vars[k].2 + v.2)]) (by rw [new_get]; exact if_pos rfl) (by simp)) rfl (by omega) (by omega) ⟨by omega, by omega⟩ rfl fun x' G' r6 r7 r8 => ?_
          rw [new_next] at r6 r7
          have hGo : ∀ b, b < H1.next + 1 → G'.get b = H5.get b := fun b hb => by
            rw [r8 b (by rw [new_next]; omega) (hO5.notlow hb), new_get, if_neg (by omega)]
          have v0 := (hGo _ (by omega)).trans g0
          have v1 := (hGo _ (by omega)).trans g1
          have v9 := (hGo _ (by omega)).trans g9
          have v2 : G'.get H2.next = some (.cells [aint v.1, aint v.2]) := by rw [r8 _ (by rw [new_next]; omega) hx1, new_get, if_neg (by omega)]; exact g2
          have v3 : G'.get (H2.next + 1) = some (.cells [aint (normF xx).n, yz]) := by rw [r8 _ (by rw [new_next]; omega) hx2, new_get, if_neg (by omega)]; exact g3
          simp -implicitDefEqProofs only [go_sem, Nat.reduceEqDiff, Nat.reduceAdd, Nat.reduceLeDiff, ↓reduceIte, reduceCtorEq, Int.reduceBEq, Int.reduceBNe, Int.reduceLT, Int.reduceLE, Int.reduceGT, Int.reduceGE, Int.reduceNeg, Int.reduceAdd, Int.reduceSub, Nat.reduceMul, Nat.reduceLT, Int.reduceToNat, t1, t2, t4, t9, t10, t11, t12, t13, v9, w4, hO5.one, hO5.cells, r6.one, r6.cells, m1, m3, m5, m7, m10, m11, m16]
          have hvk : varsC (out.vars ++ upV v.2 ((normF xx).vars.take (k + 1))) = varsC (out.vars ++ upV v.2 ((normF xx).vars.take k)) ++ [aint (normF xx).vars[k].1, aint ((normF xx).vars[k].2 + v.2)] := by
            rw [List.take_succ_eq_append_getElem hk, upV, upV, List.map_append, varsC_append, varsC_append, varsC_append, List.append_assoc]; rfl
          refine ⟨by simp, by omega, Ext.set ⟨by have := hE5.1; omega, fun b hb => by rw [hGo b (by omega)]; exact hE5.2 b hb⟩ (by omega) _, v0, v1, v2, v3, x', rfl, ?_, r6.notlow (by omega), r6.notlow (by omega)⟩
          rw [hvk]
          exact (r6.low (by omega)).set (r6.notlow (by omega)) _
        · rintro ⟨tm, H5⟩ ⟨t1, t2, t4, t9, t10, t11, t12, t13, hnx5, hE5, g0, g1, g2, g3, xr, g9, hO5, hx1, hx2⟩
          simp only at t1 t2 t4 t9 t10 t11 t12 t13 hnx5 hE5 g0 g1 g2 g3 g9 hO5
          rw [List.take_length] at hO5
          simp -implicitDefEqProofs only [go_sem, Nat.reduceEqDiff, Nat.reduceAdd, Nat.reduceLeDiff, ↓reduceIte, reduceCtorEq, Int.reduceBEq, Int.reduceBNe, Int.reduceLT, Int.reduceLE, Int.reduceGT, Int.reduceGE, Int.reduceNeg, Int.reduceAdd, Int.reduceSub, Nat.reduceMul, Nat.reduceLT, Int.reduceToNat, t1, t2, t4, t9, t10, t11, t12, t13, Int.lt_irrefl, g0, g1, g2, g3, g9, zal, w3]
          have hvl : (refStep (normF xx) v.2 out).vars.length = out.vars.length + (normF xx).vars.length := by simp [refStep, upV]
          refine ⟨by simp, by omega, hE5, refStep (normF xx) v.2 out, xr, rfl, ?_, by omega, rk1, rk2, hn2000, hfold⟩
          rw [hvl]
          exact hO5
      by_cases hl0 : (normF xx).vars.length = 0
      · have hN : (refStep (normF xx) v.2 out).n = (normF xx).n + v.2 := if_pos ⟨hq, .inr (List.length_eq_zero_iff.1 hl0)⟩
        have hlb : (((normF xx).vars.length : Int) == 0) = true := by rw [hl0]; rfl
        simp -implicitDefEqProofs only [go_sem, Nat.reduceEqDiff, Nat.reduceAdd, Nat.reduceLeDiff, ↓reduceIte, reduceCtorEq, Int.reduceBEq, Int.reduceBNe, Int.reduceLT, Int.reduceLE, Int.reduceGT, Int.reduceGE, Int.reduceNeg, Int.reduceAdd, Int.reduceSub, Nat.reduceMul, Nat.reduceLT, Int.reduceToNat, t1, t2, t4, t9, t10, m0, m1, m2, m3, m4, m5, m6, m7, m8, m9, m10, m11, m12, m13, m14, m15, m16, g0, g1, g9, hO.one, hO.cells, z1.one, z1.cells, zal, wq, hq, hx0, hlb]
        refine swp_range (normF xx).vars.length (fun k st => st.tm 1 = ax ∧ st.tm 2 = .ptr H.next 0 ∧ st.tm 4 = .ptr (H.next + 1) 0 ∧ st.tm 9 = .ptr H1.next 0 ∧ st.tm 10 = aint i ∧ st.tm 11 = .ptr H2.next 0 ∧ st.tm 12 = .ptr (H2.next + 1) 0 ∧ st.tm 13 = aint k ∧ H2.next + 2 ≤ st.heap.next ∧ Ext H st.heap ∧ st.heap.get H.next = some (.cells [aint (normF l).n, y]) ∧ st.heap.get (H.next + 1) = some (.cells [aint 0, nils]) ∧
          st.heap.get H2.next = some (.cells [aint v.1, aint v.2]) ∧ st.heap.get (H2.next + 1) = some (.cells [aint (normF xx).n, yz]) ∧ ∃ xr, st.heap.get H1.next = some (.cells [aint (refStep (normF xx) v.2 out).n, xr]) ∧ OutS st.heap (H1.next + 1) 2 (out.vars.length + k) (varsC (out.vars ++ upV v.2 ((normF xx).vars.take k))) xr ∧
          (∀ off es' n' lo ex, xr ≠ .slc H2.next off es' n' lo ex) ∧ (∀ off es' n' lo ex, xr ≠ .slc (H2.next + 1) off es' n' lo ex)) ?_ ?_ ?_
        · refine ⟨?_, ?_, ?_, ?_, ?_, ?_, ?_, rfl, Nat.le_refl _, (((((hE.new _).set (by omega) _).new _).set (by omega) _).set (by omega) _), ?_, ?_, ?_, ?_, xo, ?_, ?_, hO.high (Nat.le_refl _), hO.high (by omega)⟩
          any_goals (simp -implicitDefEqProofs only [go_sem, Nat.reduceEqDiff, Nat.reduceAdd, Nat.reduceLeDiff, ↓reduceIte, reduceCtorEq, Int.reduceBEq, Int.reduceBNe, Int.reduceLT, Int.reduceLE, Int.reduceGT, Int.reduceGE, Int.reduceNeg, Int.reduceAdd, Int.reduceSub, Nat.reduceMul, Nat.reduceLT, Int.reduceToNat, t1, t2, t4, t9, t10, m0, m1, m2, m3, m4, m5, m6, m7, m8, m9, m10, m11, m12, m13, m14, m15, m16, g0, g1, g9, hO.one, hO.cells, z1.one, z1.cells, zal, wq, hN])
          have hz : varsC (out.vars ++ upV v.2 []) = varsC out.vars := by simp [upV]
          rw [hz]
          exact (((((hO.new _).set (hO.high (Nat.le_refl _)) _).new _).set (hO.high (by omega)) _).set (hO.notlow (by omega)) _)
        · rintro k ⟨tm, H5⟩ hk ⟨t1, t2, t4, t9, t10, t11, t12, t13, hnx5, hE5, g0, g1, g2, g3, xr, g9, hO5, hx1, hx2⟩
          simp only at t1 t2 t4 t9 t10 t11 t12 t13 hnx5 hE5 g0 g1 g2 g3 g9 hO5
          have hltK : (k : Int) < ((normF xx).vars.length : Int) := by omega
          have hixk := z1.aix 2 hk
          obtain ⟨hlek, hldk⟩ := z2.at hk
          have hki := xn1 _ (List.getElem_mem hk)
          have w4 : IntKind.i64.wrap ((k : Int) + 1) = (k : Int) + 1 := i64_ok _ (by omega)
          have w5 : IntKind.i64.wrap ((normF xx).vars[k].2 + v.2) = (normF xx).vars[k].2 + v.2 := i64_ok _ (by omega)
          have hle0 : k * 2 + 1 ≤ cz.length := by omega
          have hle1 : k * 2 + 1 + 1 ≤ cz.length := by omega
          have hld0 : (cz.drop (k * 2)).take 1 = [aint (normF xx).vars[k].1] := by
            have := congrArg (List.take 1) hldk
            rw [List.take_take] at this
            simpa using this
          have hld1 : (cz.drop (k * 2 + 1)).take 1 = [aint (normF xx).vars[k].2] := by
            have := congrArg (fun q => (List.drop 1 q).take 1) hldk
            simp only [List.drop_take, List.drop_drop, List.take_take] at this
            simpa using this
          simp -implicitDefEqProofs only [go_sem, Nat.reduceEqDiff, Nat.reduceAdd, Nat.reduceLeDiff, ↓reduceIte, reduceCtorEq, Int.reduceBEq, Int.reduceBNe, Int.reduceLT, Int.reduceLE, Int.reduceGT, Int.reduceGE, Int.reduceNeg, Int.reduceAdd, Int.reduceSub, Nat.reduceMul, Nat.reduceLT, Int.reduceToNat, t1, t2, t4, t9, t10, t11, t12, t13, g0, g1, g2, g3, g9, zal, hltK, hixk, hle0, hle1, hld0, hld1, w5, hO5.one, hO5.cells, z1.one, z1.cells, afill]
          refine (hO5.new _).stepN (m := 1) (new := [aint (normF xx).vars[k].1, aint ((normF xx).vars[k].2 + v.2)]) (asrc_slc (c := [aint (normF xx).vars[k].1, aint ((normF xx).vars[k].2 + v.2)]) (by rw [new_get]; exact if_pos rfl) (by simp)) rfl (by omega) (by omega) ⟨by omega, by omega⟩ rfl fun x' G' r6 r7 r8 => ?_
          rw [new_next] at r6 r7
          have hGo : ∀ b, b < H1.next + 1 → G'.get b = H5.get b := fun b hb => by
            rw [r8 b (by rw [new_next]; omega) (hO5.notlow hb), new_get, if_neg (by omega)]
          have v0 := (hGo _ (by omega)).trans g0
          have v1 := (hGo _ (by omega)).trans g1
          have v9 := (hGo _ (by omega)).trans g9
          have v2 : G'.get H2.next = some (.cells [aint v.1, aint v.2]) := by rw [r8 _ (by rw [new_next]; omega) hx1, new_get, if_neg (by omega)]; exact g2
          have v3 : G'.get (H2.next + 1) = some (.cells [aint (normF xx).n, yz]) := by rw [r8 _ (by rw [new_next]; omega) hx2, new_get, if_neg (by omega)]; exact g3
          simp -implicitDefEqProofs only [go_sem, Nat.reduceEqDiff, Nat.reduceAdd, Nat.reduceLeDiff, ↓reduceIte, reduceCtorEq, Int.reduceBEq, Int.reduceBNe, Int.reduceLT, Int.reduceLE, Int.reduceGT, Int.reduceGE, Int.reduceNeg, Int.reduceAdd, Int.reduceSub, Nat.reduceMul, Nat.reduceLT, Int.reduceToNat, t1, t2, t4, t9, t10, t11, t12, t13, v9, w4, hO5.one, hO5.cells, r6.one, r6.cells, m1, m3, m5, m7, m10, m11, m16]
          have hvk : varsC (out.vars ++ upV v.2 ((normF xx).vars.take (k + 1))) = varsC (out.vars ++ upV v.2 ((normF xx).vars.take k)) ++ [aint (normF xx).vars[k].1, aint ((normF xx).vars[k].2 + v.2)] := by
            rw [List.take_succ_eq_append_getElem hk, upV, upV, List.map_append, varsC_append, varsC_append, varsC_append, List.append_assoc]; rfl
          refine ⟨by simp, by omega, Ext.set ⟨by have := hE5.1; omega, fun b hb => by rw [hGo b (by omega)]; exact hE5.2 b hb⟩ (by omega) _, v0, v1, v2, v3, x', rfl, ?_, r6.notlow (by omega), r6.notlow (by omega)⟩
          rw [hvk]
          exact (r6.low (by omega)).set (r6.notlow (by omega)) _
        · rintro ⟨tm, H5⟩ ⟨t1, t2, t4, t9, t10, t11, t12, t13, hnx5, hE5, g0, g1, g2, g3, xr, g9, hO5, hx1, hx2⟩
          simp only at t1 t2 t4 t9 t10 t11 t12 t13 hnx5 hE5 g0 g1 g2 g3 g9 hO5
          rw [List.take_length] at hO5
          simp -implicitDefEqProofs only [go_sem, Nat.reduceEqDiff, Nat.reduceAdd, Nat.reduceLeDiff, ↓reduceIte, reduceCtorEq, Int.reduceBEq, Int.reduceBNe, Int.reduceLT, Int.reduceLE, Int.reduceGT, Int.reduceGE, Int.reduceNeg, Int.reduceAdd, Int.reduceSub, Nat.reduceMul, Nat.reduceLT, Int.reduceToNat, t1, t2, t4, t9, t10, t11, t12, t13, Int.lt_irrefl, g0, g1, g2, g3, g9, zal, w3]
          have hvl : (refStep (normF xx) v.2 out).vars.length = out.vars.length + (normF xx).vars.length := by simp [refStep, upV]
          refine ⟨by simp, by omega, hE5, refStep (normF xx) v.2 out, xr, rfl, ?_, by omega, rk1, rk2, hn2000, hfold⟩
          rw [hvl]
          exact hO5
      have hN : (refStep (normF xx) v.2 out).n = out.n := if_neg fun h => h.2.elim hx0 fun h => hl0 (by rw [h]; rfl)
      have hlb : (((normF xx).vars.length : Int) == 0) = false := bne' (by omega)
      simp -implicitDefEqProofs only [go_sem, Nat.reduceEqDiff, Nat.reduceAdd, Nat.reduceLeDiff, ↓reduceIte, reduceCtorEq, Int.reduceBEq, Int.reduceBNe, Int.reduceLT, Int.reduceLE, Int.reduceGT, Int.reduceGE, Int.reduceNeg, Int.reduceAdd, Int.reduceSub, Nat.reduceMul, Nat.reduceLT, Int.reduceToNat, t1, t2, t4, t9, t10, m0, m1, m2, m3, m4, m5, m6, m7, m8, m9, m10, m11, m12, m13, m14, m15, m16, g0, g1, g9, hO.one, hO.cells, z1.one, z1.cells, zal, wq, hq, hx0, hlb]
      refine swp_range (normF xx).vars.length (fun k st => st.tm 1 = ax ∧ st.tm 2 = .ptr H.next 0 ∧ st.tm 4 = .ptr (H.next + 1) 0 ∧ st.tm 9 = .ptr H1.next 0 ∧ st.tm 10 = aint i ∧ st.tm 11 = .ptr H2.next 0 ∧ st.tm 12 = .ptr (H2.next + 1) 0 ∧ st.tm 13 = aint k ∧ H2.next + 2 ≤ st.heap.next ∧ Ext H st.heap ∧ st.heap.get H.next = some (.cells [aint (normF l).n, y]) ∧ st.heap.get (H.next + 1) = some (.cells [aint 0, nils]) ∧
        st.heap.get H2.next = some (.cells [aint v.1, aint v.2]) ∧ st.heap.get (H2.next + 1) = some (.cells [aint (normF xx).n, yz]) ∧ ∃ xr, st.heap.get H1.next = some (.cells [aint (refStep (normF xx) v.2 out).n, xr]) ∧ OutS st.heap (H1.next + 1) 2 (out.vars.length + k) (varsC (out.vars ++ upV v.2 ((normF xx).vars.take k))) xr ∧
        (∀ off es' n' lo ex, xr ≠ .slc H2.next off es' n' lo ex) ∧ (∀ off es' n' lo ex, xr ≠ .slc (H2.next + 1) off es' n' lo ex)) ?_ ?_ ?_
      · refine ⟨?_, ?_, ?_, ?_, ?_, ?_, ?_, rfl, Nat.le_refl _, ((((hE.new _).set (by omega) _).new _).set (by omega) _), ?_, ?_, ?_, ?_, xo, ?_, ?_, hO.high (Nat.le_refl _), hO.high (by omega)⟩
        any_goals (simp -implicitDefEqProofs only [go_sem, Nat.reduceEqDiff, Nat.reduceAdd, Nat.reduceLeDiff, ↓reduceIte, reduceCtorEq, Int.reduceBEq, Int.reduceBNe, Int.reduceLT, Int.reduceLE, Int.reduceGT, Int.reduceGE, Int.reduceNeg, Int.reduceAdd, Int.reduceSub, Nat.reduceMul, Nat.reduceLT, Int.reduceToNat, t1, t2, t4, t9, t10, m0, m1, m2, m3, m4, m5, m6, m7, m8, m9, m10, m11, m12, m13, m14, m15, m16, g0, g1, g9, hO.one, hO.cells, z1.one, z1.cells, zal, wq, hN])
        have hz : varsC (out.vars ++ upV v.2 []) = varsC out.vars := by simp [upV]
        rw [hz]
        exact ((((hO.new _).set (hO.high (Nat.le_refl _)) _).new _).set (hO.high (by omega)) _)
      · rintro k ⟨tm, H5⟩ hk ⟨t1, t2, t4, t9, t10, t11, t12, t13, hnx5, hE5, g0, g1, g2, g3, xr, g9, hO5, hx1, hx2⟩
        simp only at t1 t2 t4 t9 t10 t11 t12 t13 hnx5 hE5 g0 g1 g2 g3 g9 hO5
        have hltK : (k : Int) < ((normF xx).vars.length : Int) := by omega
        have hixk := z1.aix 2 hk
        obtain ⟨hlek, hldk⟩ := z2.at hk
        have hki := xn1 _ (List.getElem_mem hk)
        have w4 : IntKind.i64.wrap ((k : Int) + 1) = (k : Int) + 1 := i64_ok _ (by omega)
        have w5 : IntKind.i64.wrap ((normF xx).vars[k].2 + v.2) = (normF xx).vars[k].2 + v.2 := i64_ok _ (by omega)
        have hle0 : k * 2 + 1 ≤ cz.length := by omega
        have hle1 : k * 2 + 1 + 1 ≤ cz.length := by omega
        have hld0 : (cz.drop (k * 2)).take 1 = [aint (normF xx).vars[k].1] := by
          have := congrArg (List.take 1) hldk
          rw [List.take_take] at this
          simpa using this
        have hld1 : (cz.drop (k * 2 + 1)).take 1 = [aint (normF xx).vars[k].2] := by
          have := congrArg (fun q => (List.drop 1 q).take 1) hldk
          simp only [List.drop_take, List.drop_drop, List.take_take] at this
          simpa using this
        simp -implicitDefEqProofs only [go_sem, Nat.reduceEqDiff, Nat.reduceAdd, Nat.reduceLeDiff, ↓reduceIte, reduceCtorEq, Int.reduceBEq, Int.reduceBNe, Int.reduceLT, Int.reduceLE, Int.reduceGT, Int.reduceGE, Int.reduceNeg, Int.reduceAdd, Int.reduceSub, Nat.reduceMul, Nat.reduceLT, Int.reduceToNat, t1, t2, t4, t9, t10, t11, t12, t13, g0, g1, g2, g3, g9, zal, hltK, hixk, hle0, hle1, hld0, hld1, w5, hO5.one, hO5.cells, z1.one, z1.cells, afill]
        refine (hO5.new _).stepN (m := 1) (new := [aint (normF xx).vars[k].1, aint ((normF xx).vars[k].2 + v.2)]) (asrc_slc (c := [aint (normF xx).vars[k].1, aint ((normF xx).vars[k].2 + v.2)]) (by rw [new_get]; exact if_pos rfl) (by simp)) rfl (by omega) (by omega) ⟨by omega, by omega⟩ rfl fun x' G' r6 r7 r8 => ?_
        rw [new_next] at r6 r7
        have hGo : ∀ b, b < H1.next + 1 → G'.get b = H5.get b := fun b hb => by
          rw [r8 b (by rw [new_next]; omega) (hO5.notlow hb), new_get, if_neg (by omega)]
        have v0 := (hGo _ (by omega)).trans g0
        have v1 := (hGo _ (by omega)).trans g1
        have v9 := (hGo _ (by omega)).trans g9
        have v2 : G'.get H2.next = some (.cells [aint v.1, aint v.2]) := by rw [r8 _ (by rw [new_next]; omega) hx1, new_get, if_neg (by omega)]; exact g2
        have v3 : G'.get (H2.next + 1) = some (.cells [aint (normF xx).n, yz]) := by rw [r8 _ (by rw [new_next]; omega) hx2, new_get, if_neg (by omega)]; exact g3
        simp -implicitDefEqProofs only [go_sem, Nat.reduceEqDiff, Nat.reduceAdd, Nat.reduceLeDiff, ↓reduceIte, reduceCtorEq, Int.reduceBEq, Int.reduceBNe, Int.reduceLT, Int.reduceLE, Int.reduceGT, Int.reduceGE, Int.reduceNeg, Int.reduceAdd, Int.reduceSub, Nat.reduceMul, Nat.reduceLT, Int.reduceToNat, t1, t2, t4, t9, t10, t11, t12, t13, v9, w4, hO5.one, hO5.cells, r6.one, r6.cells, m1, m3, m5, m7, m10, m11, m16]
        have hvk : varsC (out.vars ++ upV v.2 ((normF xx).vars.take (k + 1))) = varsC (out.vars ++ upV v.2 ((normF xx).vars.take k)) ++ [aint (normF xx).vars[k].1, aint ((normF xx).vars[k].2 + v.2)] := by
          rw [List.take_succ_eq_append_getElem hk, upV, upV, List.map_append, varsC_append, varsC_append, varsC_append, List.append_assoc]; rfl
        refine ⟨by simp, by omega, Ext.set ⟨by have := hE5.1; omega, fun b hb => by rw [hGo b (by omega)]; exact hE5.2 b hb⟩ (by omega) _, v0, v1, v2, v3, x', rfl, ?_, r6.notlow (by omega), r6.notlow (by omega)⟩
        rw [hvk]
        exact (r6.low (by omega)).set (r6.notlow (by omega)) _
      · rintro ⟨tm, H5⟩ ⟨t1, t2, t4, t9, t10, t11, t12, t13, hnx5, hE5, g0, g1, g2, g3, xr, g9, hO5, hx1, hx2⟩
        simp only at t1 t2 t4 t9 t10 t11 t12 t13 hnx5 hE5 g0 g1 g2 g3 g9 hO5
        rw [List.take_length] at hO5
        simp -implicitDefEqProofs only [go_sem, Nat.reduceEqDiff, Nat.reduceAdd, Nat.reduceLeDiff, ↓reduceIte, reduceCtorEq, Int.reduceBEq, Int.reduceBNe, Int.reduceLT, Int.reduceLE, Int.reduceGT, Int.reduceGE, Int.reduceNeg, Int.reduceAdd, Int.reduceSub, Nat.reduceMul, Nat.reduceLT, Int.reduceToNat, t1, t2, t4, t9, t10, t11, t12, t13, Int.lt_irrefl, g0, g1, g2, g3, g9, zal, w3]
        have hvl : (refStep (normF xx) v.2 out).vars.length = out.vars.length + (normF xx).vars.length := by simp [refStep, upV]
        refine ⟨by simp, by omega, hE5, refStep (normF xx) v.2 out, xr, rfl, ?_, by omega, rk1, rk2, hn2000, hfold⟩
        rw [hvl]
        exact hO5
    · rintro ⟨tm, H2⟩ ⟨t1, t2, t4, t9, t10, hnx, hE, g0, g1, out, xo, g9, hO, hol, hok, hon, hon2, hfold⟩
      simp only at t1 t2 t4 t9 t10 hnx hE g0 g1 g9 hO
      rw [List.drop_length, refFold] at hfold
      rw [hfold]
      simp -implicitDefEqProofs only [go_sem, Nat.reduceEqDiff, Nat.reduceAdd, Nat.reduceLeDiff, ↓reduceIte, reduceCtorEq, Int.reduceBEq, Int.reduceBNe, Int.reduceLT, Int.reduceLE, Int.reduceGT, Int.reduceGE, Int.reduceNeg, Int.reduceAdd, Int.reduceSub, Nat.reduceMul, Nat.reduceLT, Int.reduceToNat, t1, t2, t4, t9, t10, Int.lt_irrefl, g0, g1, g9, yal, hO.one, hO.cells]
      refine i_callA (fs := []) (cs := []) (fid := 185) ?_ ?_ (lvl_call hO fun y cs G' a b => fits2_ok out hok.pos y cs a b (by omega) G') ?_
      · rfl
      · simp -implicitDefEqProofs only [go_sem, Nat.reduceEqDiff, Nat.reduceAdd, Nat.reduceLeDiff, ↓reduceIte, reduceCtorEq, Int.reduceBEq, Int.reduceBNe, Int.reduceLT, Int.reduceLE, Int.reduceGT, Int.reduceGE, Int.reduceNeg, Int.reduceAdd, Int.reduceSub, Nat.reduceMul, Nat.reduceLT, Int.reduceToNat]
      rintro z H4 ⟨hz', hn4, ho4⟩
      obtain ⟨yw, cw, rfl, hw4, hw5, hw6⟩ := hz'.parts
      have v1 := (ho4 _ (by omega)).trans g1
      simp -implicitDefEqProofs only [go_sem, Nat.reduceEqDiff, Nat.reduceAdd, Nat.reduceLeDiff, ↓reduceIte, reduceCtorEq, Int.reduceBEq, Int.reduceBNe, Int.reduceLT, Int.reduceLE, Int.reduceGT, Int.reduceGE, Int.reduceNeg, Int.reduceAdd, Int.reduceSub, Nat.reduceMul, Nat.reduceLT, Int.reduceToNat, t4, v1, hw5.one, hw5.cells]
      exact ⟨⟨yw, rfl, hw4⟩, Ext.set ⟨by have := hE.1; omega, fun b hb => by rw [ho4 b (by omega)]; exact hE.2 b hb⟩ (by omega) _⟩
  exact main.frz fun _ _ x H' ⟨hx, hE⟩ _ => ⟨hE, x, .keep _ (hx.old _), hx⟩
end Go.Proofs.Ytooaiddfokbffaa.E

/- Levels put in for the parameters of a term, at a node, as the code does it. Conditions: none. -/
set_option linter.unusedVariables false
set_option linter.unusedSimpArgs false
namespace Go.Proofs.Ytooaiddfokbffaa.E
open Go Go.Proofs
attribute [local go_sem] s_seq s_ops s_draw s_block s_skip s_ret s_exit i_nil i_cons i_run i_runG s_condQ c_true c_false aop ev_t ev_c updO_at updO_no upd_at t_normal t_ret t_exit b_normal b_ret b_exit a_some ac_v ac_agg ac_ptr ac_slc ac_ro ac_rop ac_fn new_next set_next argTm_zero argTm_succ argTm_nil ab_bool ab_uv beq_self_eq_true Option.some_beq_some Bool.not_not beq_iff_eq decide_true decide_false Bool.not_true Bool.not_false afld aload astore apack alen_str alen_ro alen_slc alen_nil new_get set_get ite_true ite_false Option.map_some Option.bind_some ibin isShift Nat.add_zero Nat.zero_add List.length_cons List.length_nil List.drop_zero List.drop_succ_cons List.take_succ_cons List.take_zero if_true if_false setL List.set_cons_zero List.set_cons_succ List.all_cons List.all_nil one_int one_bool one_str one_nil one_ptr one_slc one_ro one_rop one_fn Bool.and_self Bool.and_true true_and and_true and_self Bool.false_eq_true post_ret post_normal resAll resOne packR Option.some.injEq exists_eq_left' List.map_cons List.map_nil List.nil_append List.append_nil List.cons_append d_nil d_cons k_nil k_cons g_op g_same g_new avBlock forall_eq' List.getElem?_cons_succ List.getElem?_cons_zero List.getElem?_nil okind gOk bne false_imp_iff forall_const imp_self implies_true true_imp_iff i_callG

theorem sub_err (l : Lv) (args : List Lv) : ((SubLF l args).2 = 0 ∧ rightF (SubLF l args).1 = true) ∨ SubLF l args = (lv0, 13) := by
  unfold SubLF
  split
  · cases subFold args (normF l).vars ⟨(normF l).n, []⟩ with
    | none => exact .inr rfl
    | some o =>
      simp only [resF]
      rcases told_cases2 o with ⟨m, h1, h2⟩ | h
      · rw [h1]; exact .inl ⟨rfl, h2⟩
      · exact .inr h
  · exact .inr rfl

def badK (args : List Lv) (b : Int) (lv : List Lv) : Int := lv.foldl (fun b l => if ¬ (SubLF l args).2 = 0 ∧ b = 0 then (SubLF l args).2 else b) b
theorem badK_vals (args : List Lv) : ∀ (lv : List Lv) (b : Int), b = 0 ∨ b = 13 → badK args b lv = 0 ∨ badK args b lv = 13
  | [], b, h => h
  | l :: r, b, h => by
    simp only [badK, List.foldl_cons]
    refine badK_vals args r _ ?_
    split
    · rcases sub_err l args with ⟨h1, _⟩ | h1
      · rename_i hh _; exact absurd h1 hh.1
      · rw [h1]; exact .inr rfl
    · exact h
theorem badK_take (args : List Lv) (b : Int) (lv : List Lv) (i : Nat) (hi : i < lv.length) : badK args b (lv.take (i + 1)) = if ¬ (SubLF lv[i] args).2 = 0 ∧ badK args b (lv.take i) = 0 then (SubLF lv[i] args).2 else badK args b (lv.take i) := by
  rw [List.take_succ_eq_append_getElem hi, badK, List.foldl_append]; rfl

def subM (args : List Lv) (lv : List Lv) : List Lv := lv.map fun l => (SubLF l args).1
def nodeL (args : List Lv) (t : Tm) : Tm := .mk t.form 0 false (if t.form = 10 then t.name else zeroS) (subM args t.lv) []
def badOf : List AV → Int
  | [.v (.int _ n)] => n
  | _ => 0
def lvD (args : List Lv) : MD := fun t deep m c => if (t.form ≠ 2 ∧ t.form ≠ 10) ∨ badOf c ≠ 0 then (if badOf c ≠ 0 then some zeroTm else none, m, c) else (some (nodeL args t), m, [aint (badK args 0 t.lv)])

theorem set_bb {bl bb : Nat} {m : Int} {c : List AV} {G : AHeap} (h : G.get bl = some (.cells [aint m])) : G.set bb (.cells c) = put2 bl bb m c G := by
  unfold put2
  rw [AHeap.set_self h]

set_option maxRecDepth 100000 in
theorem lvD_ok (args : List Lv) (ax : AV) (as' : List AV) (ha1 : SlR args.length ax as') (ha2 : LvsR args as') (hal : args.length ≤ 4611686018427387904) (hav : ∀ a ∈ args, a.vars.length ≤ 4611686018427387904) {bl bb ba : Nat} (hne : bl ≠ bb) (hna : ba ≠ bl ∧ ba ≠ bb)
    (t : Tm) (hb : TmB t) (cells : List AV) (deep m : Int) (c : List AV) (hT : TmP t cells) (hc : ∃ b, c = [aint b] ∧ (b = 0 ∨ b = 13)) (G : AHeap)
    (hgl : G.get bl = some (.cells [aint m])) (hgb : G.get bb = some (.cells c)) (hl : bl < G.next) (hbb : bb < G.next) (hga : G.get ba = some (.cells [ax]) ∧ ba < G.next) :
    SCall Try.prog 147 [.agg cells, aint deep, .ptr bb 0, .ptr ba 0] G fun x H' => (∃ xc, x = .tup [.agg xc, abl (lvD args t deep m c).1.isSome] ∧ TmP ((lvD args t deep m c).1.getD zeroTm) xc) ∧ H' = put2 bl bb (lvD args t deep m c).2.1 (lvD args t deep m c).2.2 G := by
  obtain ⟨b0, rfl, hb0⟩ := hc
  obtain ⟨hga, hal2⟩ := hga
  have hbo : badOf [aint b0] = b0 := rfl
  have hcc : ∀ x ∈ (lvD args t deep m [aint b0]).2.2, Old 0 x := by
    unfold lvD
    split
    · intro x hx; simp at hx; subst hx; exact .v _
    · intro x hx; simp at hx; subst hx; exact .v _
  refine SCall.frzAt2 bl bb _ _ hl hbb hcc (G := fun x => ∃ xc, x = .tup [.agg xc, abl (lvD args t deep m [aint b0]).1.isSome] ∧ TmP ((lvD args t deep m [aint b0]).1.getD zeroTm) xc)
    (R := fun x H' => Ext (put2 bl bb (lvD args t deep m [aint b0]).2.1 (lvD args t deep m [aint b0]).2.2 G) H' ∧ ∃ y, FrzN G.next H' x y ∧ ∃ xc, y = .tup [.agg xc, abl (lvD args t deep m [aint b0]).1.isSome] ∧ TmP ((lvD args t deep m [aint b0]).1.getD zeroTm) xc)
    (SCall.intro mixed cf147 ?_) (fun _ _ x H' ⟨h1, y, h2, h3⟩ _ => ⟨h1, y, h2, h3⟩)
  have keep : ∀ {u : Tm} {xc : List AV} {b : Bool} {H' : AHeap}, TmP u xc → ∃ y, FrzN G.next H' (.tup [.agg xc, abl b]) y ∧ ∃ xc', y = .tup [.agg xc', abl b] ∧ TmP u xc' := fun {u xc b H'} h => ⟨_, .keep _ (.tup _ fun y hy => by
    simp at hy
    rcases hy with rfl | rfl
    · exact .agg _ fun z hz => (h.2 z hz).mono (Nat.zero_le _)
    · exact .v _), _, rfl, h⟩
  have hT' := hT
  obtain ⟨lx, kx, ls, cs, rfl, hl1, hl2, hk1, hk2⟩ := hT.1.six
  have p1 := hl1.one
  have p2 := hk1.one
  have p3 := hl1.cells
  have p4 := hk1.cells
  have lal : ∀ G, alen G .slice lx = some t.lv.length := fun G => hl1.alen G
  have hself : put2 bl bb m [aint b0] G = G := put2_self hgl hgb
  have e1 : ¬ G.next = G.next + 1 := by omega
  have e2 : ¬ G.next + 1 = G.next := by omega
  have e3 : ¬ G.next = G.next + 1 + 1 := by omega
  have e4 : ¬ G.next + 1 = G.next + 1 + 1 := by omega
  have e5 : ¬ G.next + 1 + 1 = G.next := by omega
  have e6 : ¬ G.next + 1 + 1 = G.next + 1 := by omega
  have f1 : ¬ bb = G.next := by omega
  have f2 : ¬ bb = G.next + 1 := by omega
  have f3 : ¬ bb = G.next + 1 + 1 := by omega
  have hE0 : ∀ o1 o2 o3, Ext G (((G.new o1).new o2).set (G.next + 1) o3) := fun o1 o2 o3 => (((Ext.refl G).new _).new _).set (by omega) _
  by_cases hbad : b0 = 0
  case neg =>
    have hD : lvD args t deep m [aint b0] = (some zeroTm, m, [aint b0]) := by
      simp only [lvD, hbo]
      rw [if_pos (.inr hbad), if_pos hbad]
    rw [hD]
    simp only [hself]
    by_cases h2 : t.form = 2
    · simp -implicitDefEqProofs only [c147, go_sem, Nat.reduceEqDiff, Nat.reduceAdd, Nat.reduceLeDiff, ↓reduceIte, reduceCtorEq, Int.reduceBEq, Int.reduceBNe, Int.reduceLT, Int.reduceLE, Int.reduceGT, Int.reduceGE, Int.reduceNeg, Int.reduceAdd, Int.reduceSub, Nat.reduceMul, Nat.reduceLT, Int.reduceToNat, p1, p2, p3, p4, hgb, afill, e1, e2, f1, f2, h2, bne' hbad]
      exact ⟨hE0 _ _ _, keep tmp_zero⟩
    · by_cases h10 : t.form = 10
      · simp -implicitDefEqProofs only [c147, go_sem, Nat.reduceEqDiff, Nat.reduceAdd, Nat.reduceLeDiff, ↓reduceIte, reduceCtorEq, Int.reduceBEq, Int.reduceBNe, Int.reduceLT, Int.reduceLE, Int.reduceGT, Int.reduceGE, Int.reduceNeg, Int.reduceAdd, Int.reduceSub, Nat.reduceMul, Nat.reduceLT, Int.reduceToNat, p1, p2, p3, p4, hgb, afill, e1, e2, f1, f2, h10, bne' hbad]
        exact ⟨hE0 _ _ _, keep tmp_zero⟩
      · simp -implicitDefEqProofs only [c147, go_sem, Nat.reduceEqDiff, Nat.reduceAdd, Nat.reduceLeDiff, ↓reduceIte, reduceCtorEq, Int.reduceBEq, Int.reduceBNe, Int.reduceLT, Int.reduceLE, Int.reduceGT, Int.reduceGE, Int.reduceNeg, Int.reduceAdd, Int.reduceSub, Nat.reduceMul, Nat.reduceLT, Int.reduceToNat, p1, p2, p3, p4, hgb, afill, e1, e2, f1, f2, bne' h2, bne' h10, bne' hbad]
        exact ⟨hE0 _ _ _, keep tmp_zero⟩
  subst hbad
  by_cases hf : t.form ≠ 2 ∧ t.form ≠ 10
  · have hD : lvD args t deep m [aint 0] = (none, m, [aint 0]) := by
      simp only [lvD, hbo]
      rw [if_pos (.inl hf), if_neg (by simp)]
    rw [hD]
    simp only [hself]
    simp -implicitDefEqProofs only [c147, go_sem, Nat.reduceEqDiff, Nat.reduceAdd, Nat.reduceLeDiff, ↓reduceIte, reduceCtorEq, Int.reduceBEq, Int.reduceBNe, Int.reduceLT, Int.reduceLE, Int.reduceGT, Int.reduceGE, Int.reduceNeg, Int.reduceAdd, Int.reduceSub, Nat.reduceMul, Nat.reduceLT, Int.reduceToNat, p1, p2, p3, p4, hgb, afill, e1, e2, f1, f2, bne' hf.1, bne' hf.2]
    exact ⟨hE0 _ _ _, keep tmp_zero⟩
  have hD : lvD args t deep m [aint 0] = (some (nodeL args t), m, [aint (badK args 0 t.lv)]) := by
    simp only [lvD, hbo]
    rw [if_neg (by simp; omega)]
  rw [hD]
  have hf' : t.form = 2 ∨ t.form = 10 := by omega
  rcases hf' with hf2 | hf2
  · have hkk := hk1.one
    simp -implicitDefEqProofs only [c147, go_sem, Nat.reduceEqDiff, Nat.reduceAdd, Nat.reduceLeDiff, ↓reduceIte, reduceCtorEq, Int.reduceBEq, Int.reduceBNe, Int.reduceLT, Int.reduceLE, Int.reduceGT, Int.reduceGE, Int.reduceNeg, Int.reduceAdd, Int.reduceSub, Nat.reduceMul, Nat.reduceLT, Int.reduceToNat, p1, p2, p3, p4, hgb, afill, e1, e2, e3, e4, e5, e6, f1, f2, f3, hf2, lal]
    refine swp_range t.lv.length (fun i st => st.tm 2 = .ptr bb 0 ∧ st.tm 3 = .ptr ba 0 ∧ st.tm 6 = .ptr (G.next + 1) 0 ∧ st.tm 8 = .ptr (G.next + 1 + 1) 0 ∧ st.tm 38 = lx ∧ st.tm 39 = aint t.lv.length ∧ st.tm 40 = aint i ∧ G.next + 3 ≤ st.heap.next ∧ st.heap.get ba = some (.cells [ax]) ∧ st.heap.get (G.next + 1) = some (.cells z6) ∧
      st.heap.get bl = some (.cells [aint m]) ∧ st.heap.get bb = some (.cells [aint (badK args 0 (t.lv.take i))]) ∧ Ext (put2 bl bb m [aint (badK args 0 (t.lv.take i))] G) st.heap ∧
      ∃ x l, st.heap.get (G.next + 1 + 1) = some (.cells [aint 2, aint 0, abl false, .v (.string zeroS), x, nils]) ∧ OutS st.heap (G.next + 3) 2 i l x ∧ LvsX (subM args (t.lv.take i)) l) ?_ ?_ ?_
    · refine ⟨rfl, rfl, rfl, rfl, rfl, rfl, rfl, Nat.le_refl _, ?_, ?_, ?_, ?_, ?_, nils, [], ?_, .nil, rfl⟩
      · simp -implicitDefEqProofs only [go_sem, Nat.reduceEqDiff, Nat.reduceAdd, Nat.reduceLeDiff, ↓reduceIte, reduceCtorEq, Int.reduceBEq, Int.reduceBNe, Int.reduceLT, Int.reduceLE, Int.reduceGT, Int.reduceGE, Int.reduceNeg, Int.reduceAdd, Int.reduceSub, Nat.reduceMul, Nat.reduceLT, Int.reduceToNat, show ¬ ba = G.next by omega, show ¬ ba = G.next + 1 by omega, show ¬ ba = G.next + 1 + 1 by omega, hga]
      · simp -implicitDefEqProofs only [go_sem, Nat.reduceEqDiff, Nat.reduceAdd, Nat.reduceLeDiff, ↓reduceIte, reduceCtorEq, Int.reduceBEq, Int.reduceBNe, Int.reduceLT, Int.reduceLE, Int.reduceGT, Int.reduceGE, Int.reduceNeg, Int.reduceAdd, Int.reduceSub, Nat.reduceMul, Nat.reduceLT, Int.reduceToNat, e1, e2, e3, e4, e5, e6]
      · simp -implicitDefEqProofs only [go_sem, Nat.reduceEqDiff, Nat.reduceAdd, Nat.reduceLeDiff, ↓reduceIte, reduceCtorEq, Int.reduceBEq, Int.reduceBNe, Int.reduceLT, Int.reduceLE, Int.reduceGT, Int.reduceGE, Int.reduceNeg, Int.reduceAdd, Int.reduceSub, Nat.reduceMul, Nat.reduceLT, Int.reduceToNat, show ¬ bl = G.next by omega, show ¬ bl = G.next + 1 by omega, show ¬ bl = G.next + 1 + 1 by omega, hgl]
      · simp -implicitDefEqProofs only [go_sem, Nat.reduceEqDiff, Nat.reduceAdd, Nat.reduceLeDiff, ↓reduceIte, reduceCtorEq, Int.reduceBEq, Int.reduceBNe, Int.reduceLT, Int.reduceLE, Int.reduceGT, Int.reduceGE, Int.reduceNeg, Int.reduceAdd, Int.reduceSub, Nat.reduceMul, Nat.reduceLT, Int.reduceToNat, f1, f2, f3, hgb]; rfl
      · exact (Ext.self2 hgl hgb (((((Ext.refl G).new _).new _).new _).set (by omega) _))
      · simp -implicitDefEqProofs only [go_sem, Nat.reduceEqDiff, Nat.reduceAdd, Nat.reduceLeDiff, ↓reduceIte, reduceCtorEq, Int.reduceBEq, Int.reduceBNe, Int.reduceLT, Int.reduceLE, Int.reduceGT, Int.reduceGE, Int.reduceNeg, Int.reduceAdd, Int.reduceSub, Nat.reduceMul, Nat.reduceLT, Int.reduceToNat, e1, e2, e3, e4, e5, e6]
        all_goals rfl
    · rintro i ⟨tm, H2⟩ hi ⟨t2, t3, t6, t8, t38, t39, t40, hnx, ga, g1, gl, gb, hE, x, l, g2, hO, hX⟩
      simp only at t2 t3 t6 t8 t38 t39 t40 hnx ga g1 gl gb hE g2 hO
      have hltI : (i : Int) < (t.lv.length : Int) := by omega
      have hix := hl1.aix 2 hi
      obtain ⟨vx, vs, hle, hld, hv1, hv2⟩ := hl2.at (List.getElem?_eq_getElem hi)
      have hlvl := hb.2.2.2.1
      have w3 : IntKind.i64.wrap ((i : Int) + 1) = (i : Int) + 1 := i64_ok _ (by omega)
      have hvb := (hb.2.2.2.2.2 _ (List.getElem_mem hi)).2.1
      have hbt := badK_take args 0 t.lv i hi
      have hst : subM args (t.lv.take (i + 1)) = subM args (t.lv.take i) ++ [(SubLF t.lv[i] args).1] := by
        rw [List.take_succ_eq_append_getElem hi, subM, subM, List.map_append]; rfl
      have m0 : ¬ G.next + 1 = H2.next := by omega
      have m1 : ¬ G.next + 1 + 1 = H2.next := by omega
      have m2 : ¬ bb = H2.next := by omega
      have m3 : ¬ ba = H2.next := by omega
      have m4 : ¬ bl = H2.next := by omega
      have m5 : ¬ G.next + 1 = H2.next + 1 := by omega
      have m6 : ¬ G.next + 1 + 1 = H2.next + 1 := by omega
      have m7 : ¬ bb = H2.next + 1 := by omega
      have m8 : ¬ ba = H2.next + 1 := by omega
      have m9 : ¬ bl = H2.next + 1 := by omega
      have m10 : ¬ H2.next = H2.next + 1 := by omega
      have m11 : ¬ H2.next + 1 = H2.next := by omega
      have m12 : ¬ H2.next = bb := by omega
      have m13 : ¬ H2.next + 1 = bb := by omega
      have m14 : ¬ G.next + 1 + 1 = bb := by omega
      have m15 : ¬ G.next + 1 = bb := by omega
      have m16 : ¬ bb = G.next + 1 + 1 := by omega
      simp -implicitDefEqProofs only [go_sem, Nat.reduceEqDiff, Nat.reduceAdd, Nat.reduceLeDiff, ↓reduceIte, reduceCtorEq, Int.reduceBEq, Int.reduceBNe, Int.reduceLT, Int.reduceLE, Int.reduceGT, Int.reduceGE, Int.reduceNeg, Int.reduceAdd, Int.reduceSub, Nat.reduceMul, Nat.reduceLT, Int.reduceToNat, t2, t3, t6, t8, t38, t39, t40, hltI, hix, hle, hld, hv1.one, hv1.cells, ga, gb, m0, m1, m2, m3, m4]
      refine i_callA (fs := []) (cs := []) (fid := 148) ?_ ?_ (subL_ok t.lv[i] vx vs hv1 hv2 (by omega) args ax as' ha1 ha2 hal hav _) ?_
      · rfl
      · simp -implicitDefEqProofs only [go_sem, Nat.reduceEqDiff, Nat.reduceAdd, Nat.reduceLeDiff, ↓reduceIte, reduceCtorEq, Int.reduceBEq, Int.reduceBNe, Int.reduceLT, Int.reduceLE, Int.reduceGT, Int.reduceGE, Int.reduceNeg, Int.reduceAdd, Int.reduceSub, Nat.reduceMul, Nat.reduceLT, Int.reduceToNat]
      rintro z H4 ⟨hz, hHH⟩
      have hHH := hHH.symm
      subst hHH
      obtain ⟨yz, cz, rfl, hz1, hz2, hz3⟩ := hz.parts
      generalize hse : (SubLF t.lv[i] args).2 = se at *
      generalize hsl : (SubLF t.lv[i] args).1 = sl at *
      generalize hbk : badK args 0 (t.lv.take i) = bk at *
      have hHb : Ext (put2 bl bb m [aint bk] G) ((((H2.new (.cells [aint 0, nils])).set H2.next (.cells [aint t.lv[i].n, vx])).new (.cells [aint 0, nils])).set (H2.next + 1) (.cells [aint sl.n, yz])) := (((hE.new _).set (by rw [put2_next]; omega) _).new _).set (by rw [put2_next]; omega) _
      have hOb : OutS ((((H2.new (.cells [aint 0, nils])).set H2.next (.cells [aint t.lv[i].n, vx])).new (.cells [aint 0, nils])).set (H2.next + 1) (.cells [aint sl.n, yz])) (G.next + 3) 2 i l x := (((hO.new _).set (hO.high (Nat.le_refl _)) _).new _).set (hO.high (by omega)) _
      by_cases hc : ¬ se = 0 ∧ bk = 0
      · rw [if_pos hc] at hbt
        obtain ⟨hc1, hc2⟩ := hc
        subst hc2
        simp -implicitDefEqProofs only [go_sem, Nat.reduceEqDiff, Nat.reduceAdd, Nat.reduceLeDiff, ↓reduceIte, reduceCtorEq, Int.reduceBEq, Int.reduceBNe, Int.reduceLT, Int.reduceLE, Int.reduceGT, Int.reduceGE, Int.reduceNeg, Int.reduceAdd, Int.reduceSub, Nat.reduceMul, Nat.reduceLT, Int.reduceToNat, t2, t3, t6, t8, t38, t39, t40, hltI, ga, g1, gl, gb, g2, m0, m1, m2, m3, m4, m5, m6, m7, m8, m9, m10, m11, m12, m13, m14, m15, m16, bne' hc1, hz2.one, hz2.cells, hO.one, hO.cells, afill]
        have hgl3 : ((((H2.new (.cells [aint 0, nils])).set H2.next (.cells [aint t.lv[i].n, vx])).new (.cells [aint 0, nils])).set (H2.next + 1) (.cells [aint sl.n, yz])).get bl = some (.cells [aint m]) := by simp -implicitDefEqProofs only [go_sem, Nat.reduceEqDiff, Nat.reduceAdd, Nat.reduceLeDiff, ↓reduceIte, reduceCtorEq, Int.reduceBEq, Int.reduceBNe, Int.reduceLT, Int.reduceLE, Int.reduceGT, Int.reduceGE, Int.reduceNeg, Int.reduceAdd, Int.reduceSub, Nat.reduceMul, Nat.reduceLT, Int.reduceToNat, m4, m9, gl]
        have hHb2 := hHb.put2 (m' := m) (c' := [aint se])
        rw [← set_bb hgl3] at hHb2
        refine (((hOb.set (hO.notlow (by omega)) _)).new _).stepN (m := 1) (new := [aint sl.n, yz]) (asrc_slc (c := [aint sl.n, yz]) (by rw [new_get]; exact if_pos rfl) (by simp)) (by simp [slv_one hz1, one_int]) (by omega) (by omega) ⟨by omega, by omega⟩ rfl fun x' G' r6 r7 r8 => ?_
        simp only [new_next, set_next] at r6 r7
        have hGo : ∀ b, b < G.next + 3 → G'.get b = if b = bb then some (.cells [aint se]) else H2.get b := fun b hb => by
          rw [r8 b (by simp only [new_next, set_next]; omega) (hO.notlow hb), new_get, if_neg (by simp only [new_next, set_next]; omega)]
          rw [set_get]; split
          · rfl
          · rw [set_get, if_neg (by omega), new_get, if_neg (by simp only [new_next, set_next]; omega), set_get, if_neg (by omega), new_get, if_neg (by omega)]
        have va : G'.get ba = some (.cells [ax]) := by rw [hGo _ (by omega), if_neg (by omega)]; exact ga
        have v1 : G'.get (G.next + 1) = some (.cells z6) := by rw [hGo _ (by omega), if_neg (by omega)]; exact g1
        have v2 : G'.get (G.next + 1 + 1) = some (.cells [aint 2, aint 0, abl false, .v (.string zeroS), x, nils]) := by rw [hGo _ (by omega), if_neg (by omega)]; exact g2
        have vl : G'.get bl = some (.cells [aint m]) := by rw [hGo _ (by omega), if_neg hne]; exact gl
        have vb : G'.get bb = some (.cells [aint se]) := by rw [hGo _ (by omega), if_pos rfl]
        have hEG : Ext (put2 bl bb m [aint se] G) G' := ⟨by rw [put2_next]; omega, fun b hb => by
          rw [put2_next] at hb
          rw [r8 b (by simp only [new_next, set_next]; omega) (hO.notlow (by omega)), new_get, if_neg (by simp only [new_next, set_next]; omega)]
          exact hHb2.2 b (by rw [put2_next]; exact hb)⟩
        simp -implicitDefEqProofs only [go_sem, Nat.reduceEqDiff, Nat.reduceAdd, Nat.reduceLeDiff, ↓reduceIte, reduceCtorEq, Int.reduceBEq, Int.reduceBNe, Int.reduceLT, Int.reduceLE, Int.reduceGT, Int.reduceGE, Int.reduceNeg, Int.reduceAdd, Int.reduceSub, Nat.reduceMul, Nat.reduceLT, Int.reduceToNat, t8, t40, v2, w3, hO.one, hO.cells, r6.one, r6.cells, m14, m15, m16, e4, e6]
        rw [hbt, hst]
        refine ⟨t2, t3, t6, t38, t39, by simp, by omega, ?_, v1, ?_, ?_, hEG.set (by rw [put2_next]; omega) _, x', l ++ [aint sl.n, yz], rfl, (r6.low (by omega)).set (r6.notlow (by omega)) _, hX.snoc hz1⟩
        · rw [if_neg (by omega)]; exact va
        · rw [if_neg (by omega)]; exact vl
        · exact vb
      · rw [if_neg hc] at hbt
        by_cases hse0 : se = 0
        · have hseb : (se == 0) = true := by rw [hse0]; rfl
          simp -implicitDefEqProofs only [go_sem, Nat.reduceEqDiff, Nat.reduceAdd, Nat.reduceLeDiff, ↓reduceIte, reduceCtorEq, Int.reduceBEq, Int.reduceBNe, Int.reduceLT, Int.reduceLE, Int.reduceGT, Int.reduceGE, Int.reduceNeg, Int.reduceAdd, Int.reduceSub, Nat.reduceMul, Nat.reduceLT, Int.reduceToNat, t2, t3, t6, t8, t38, t39, t40, hltI, ga, g1, gl, gb, g2, m0, m1, m2, m3, m4, m5, m6, m7, m8, m9, m10, m11, m12, m13, m14, m15, m16, hse0, hseb, hz2.one, hz2.cells, hO.one, hO.cells, afill]
          refine ((hOb).new _).stepN (m := 1) (new := [aint sl.n, yz]) (asrc_slc (c := [aint sl.n, yz]) (by rw [new_get]; exact if_pos rfl) (by simp)) (by simp [slv_one hz1, one_int]) (by omega) (by omega) ⟨by omega, by omega⟩ rfl fun x' G' r6 r7 r8 => ?_
          simp only [new_next, set_next] at r6 r7
          have hGo : ∀ b, b < G.next + 3 → G'.get b = H2.get b := fun b hb => by
            rw [r8 b (by simp only [new_next, set_next]; omega) (hO.notlow hb), new_get, if_neg (by simp only [new_next, set_next]; omega)]
            skip
            rw [set_get, if_neg (by omega), new_get, if_neg (by simp only [new_next, set_next]; omega), set_get, if_neg (by omega), new_get, if_neg (by omega)]
          have va : G'.get ba = some (.cells [ax]) := by rw [hGo _ (by omega)]; exact ga
          have v1 : G'.get (G.next + 1) = some (.cells z6) := by rw [hGo _ (by omega)]; exact g1
          have v2 : G'.get (G.next + 1 + 1) = some (.cells [aint 2, aint 0, abl false, .v (.string zeroS), x, nils]) := by rw [hGo _ (by omega)]; exact g2
          have vl : G'.get bl = some (.cells [aint m]) := by rw [hGo _ (by omega)]; exact gl
          have vb : G'.get bb = some (.cells [aint bk]) := by rw [hGo _ (by omega)]; exact gb
          have hEG : Ext (put2 bl bb m [aint bk] G) G' := ⟨by rw [put2_next]; omega, fun b hb => by
            rw [put2_next] at hb
            rw [r8 b (by simp only [new_next, set_next]; omega) (hO.notlow (by omega)), new_get, if_neg (by simp only [new_next, set_next]; omega)]
            exact hHb.2 b (by rw [put2_next]; exact hb)⟩
          simp -implicitDefEqProofs only [go_sem, Nat.reduceEqDiff, Nat.reduceAdd, Nat.reduceLeDiff, ↓reduceIte, reduceCtorEq, Int.reduceBEq, Int.reduceBNe, Int.reduceLT, Int.reduceLE, Int.reduceGT, Int.reduceGE, Int.reduceNeg, Int.reduceAdd, Int.reduceSub, Nat.reduceMul, Nat.reduceLT, Int.reduceToNat, t8, t40, v2, w3, hO.one, hO.cells, r6.one, r6.cells, m14, m15, m16, e4, e6]
          rw [hbt, hst]
          refine ⟨t2, t3, t6, t38, t39, by simp, by omega, ?_, v1, ?_, ?_, hEG.set (by rw [put2_next]; omega) _, x', l ++ [aint sl.n, yz], rfl, (r6.low (by omega)).set (r6.notlow (by omega)) _, hX.snoc hz1⟩
          · rw [if_neg (by omega)]; exact va
          · rw [if_neg (by omega)]; exact vl
          · exact vb
        · have hbk0 : ¬ bk = 0 := fun h => hc ⟨hse0, h⟩
          simp -implicitDefEqProofs only [go_sem, Nat.reduceEqDiff, Nat.reduceAdd, Nat.reduceLeDiff, ↓reduceIte, reduceCtorEq, Int.reduceBEq, Int.reduceBNe, Int.reduceLT, Int.reduceLE, Int.reduceGT, Int.reduceGE, Int.reduceNeg, Int.reduceAdd, Int.reduceSub, Nat.reduceMul, Nat.reduceLT, Int.reduceToNat, t2, t3, t6, t8, t38, t39, t40, hltI, ga, g1, gl, gb, g2, m0, m1, m2, m3, m4, m5, m6, m7, m8, m9, m10, m11, m12, m13, m14, m15, m16, bne' hse0, bne' hbk0, hz2.one, hz2.cells, hO.one, hO.cells, afill]
          refine ((hOb).new _).stepN (m := 1) (new := [aint sl.n, yz]) (asrc_slc (c := [aint sl.n, yz]) (by rw [new_get]; exact if_pos rfl) (by simp)) (by simp [slv_one hz1, one_int]) (by omega) (by omega) ⟨by omega, by omega⟩ rfl fun x' G' r6 r7 r8 => ?_
          simp only [new_next, set_next] at r6 r7
          have hGo : ∀ b, b < G.next + 3 → G'.get b = H2.get b := fun b hb => by
            rw [r8 b (by simp only [new_next, set_next]; omega) (hO.notlow hb), new_get, if_neg (by simp only [new_next, set_next]; omega)]
            skip
            rw [set_get, if_neg (by omega), new_get, if_neg (by simp only [new_next, set_next]; omega), set_get, if_neg (by omega), new_get, if_neg (by omega)]
          have va : G'.get ba = some (.cells [ax]) := by rw [hGo _ (by omega)]; exact ga
          have v1 : G'.get (G.next + 1) = some (.cells z6) := by rw [hGo _ (by omega)]; exact g1
          have v2 : G'.get (G.next + 1 + 1) = some (.cells [aint 2, aint 0, abl false, .v (.string zeroS), x, nils]) := by rw [hGo _ (by omega)]; exact g2
          have vl : G'.get bl = some (.cells [aint m]) := by rw [hGo _ (by omega)]; exact gl
          have vb : G'.get bb = some (.cells [aint bk]) := by rw [hGo _ (by omega)]; exact gb
          have hEG : Ext (put2 bl bb m [aint bk] G) G' := ⟨by rw [put2_next]; omega, fun b hb => by
            rw [put2_next] at hb
            rw [r8 b (by simp only [new_next, set_next]; omega) (hO.notlow (by omega)), new_get, if_neg (by simp only [new_next, set_next]; omega)]
            exact hHb.2 b (by rw [put2_next]; exact hb)⟩
          simp -implicitDefEqProofs only [go_sem, Nat.reduceEqDiff, Nat.reduceAdd, Nat.reduceLeDiff, ↓reduceIte, reduceCtorEq, Int.reduceBEq, Int.reduceBNe, Int.reduceLT, Int.reduceLE, Int.reduceGT, Int.reduceGE, Int.reduceNeg, Int.reduceAdd, Int.reduceSub, Nat.reduceMul, Nat.reduceLT, Int.reduceToNat, t8, t40, v2, w3, hO.one, hO.cells, r6.one, r6.cells, m14, m15, m16, e4, e6]
          rw [hbt, hst]
          refine ⟨t2, t3, t6, t38, t39, by simp, by omega, ?_, v1, ?_, ?_, hEG.set (by rw [put2_next]; omega) _, x', l ++ [aint sl.n, yz], rfl, (r6.low (by omega)).set (r6.notlow (by omega)) _, hX.snoc hz1⟩
          · rw [if_neg (by omega)]; exact va
          · rw [if_neg (by omega)]; exact vl
          · exact vb
    · rintro ⟨tm, H2⟩ ⟨t2, t3, t6, t8, t38, t39, t40, hnx, ga, g1, gl, gb, hE, x, l, g2, hO, hX⟩
      simp only at t2 t3 t6 t8 t38 t39 t40 hnx ga g1 gl gb hE g2 hO
      rw [List.take_length] at hE hX
      simp -implicitDefEqProofs only [go_sem, Nat.reduceEqDiff, Nat.reduceAdd, Nat.reduceLeDiff, ↓reduceIte, reduceCtorEq, Int.reduceBEq, Int.reduceBNe, Int.reduceLT, Int.reduceLE, Int.reduceGT, Int.reduceGE, Int.reduceNeg, Int.reduceAdd, Int.reduceSub, Nat.reduceMul, Nat.reduceLT, Int.reduceToNat, t2, t3, t6, t8, t38, t39, t40, Int.lt_irrefl, g1, g2, hO.one, hO.cells]
      refine ⟨hE.set (by rw [put2_next]; omega) _, ?_⟩
      have hO2 := hO.set (b' := G.next + 1) (hO.notlow (by omega)) (.cells [aint 2, aint 0, abl false, .v (.string zeroS), x, nils])
      obtain ⟨zr, h3, h4⟩ := hO2.frzOld (N := G.next) (by omega) (fun y hy => (hX.old y hy).mono (Nat.zero_le _))
      have hml : (subM args t.lv).length = t.lv.length := by simp [subM]
      rw [← hml] at h4
      have hnode : nodeL args t = .mk 2 0 false zeroS (subM args t.lv) [] := by unfold nodeL; rw [hf2]; rfl
      rw [hnode]
      refine ⟨.tup [.agg [aint 2, aint 0, abl false, .v (.string zeroS), zr, nils], abl true], .tup _ _ rfl fun i x y hx hy => ?_, _, rfl, tmp_bare (SlL.of hX h4)⟩
      match i, hx, hy with
      | 0, hx, hy =>
        simp at hx hy
        subst hx hy
        exact FrzN.six (.keep _ (.v _)) (.keep _ (.v _)) (.keep _ (.v _)) (.keep _ (.v _)) h3 (.keep _ (.v _))
      | 1, hx, hy => simp at hx hy; subst hx hy; exact .keep _ (.v _)
      | i + 2, hx, hy => simp at hx
  · have hkk := hk1.one
    simp -implicitDefEqProofs only [c147, go_sem, Nat.reduceEqDiff, Nat.reduceAdd, Nat.reduceLeDiff, ↓reduceIte, reduceCtorEq, Int.reduceBEq, Int.reduceBNe, Int.reduceLT, Int.reduceLE, Int.reduceGT, Int.reduceGE, Int.reduceNeg, Int.reduceAdd, Int.reduceSub, Nat.reduceMul, Nat.reduceLT, Int.reduceToNat, p1, p2, p3, p4, hgb, afill, e1, e2, e3, e4, e5, e6, f1, f2, f3, hf2, lal]
    refine swp_range t.lv.length (fun i st => st.tm 2 = .ptr bb 0 ∧ st.tm 3 = .ptr ba 0 ∧ st.tm 6 = .ptr (G.next + 1) 0 ∧ st.tm 8 = .ptr (G.next + 1 + 1) 0 ∧ st.tm 38 = lx ∧ st.tm 39 = aint t.lv.length ∧ st.tm 40 = aint i ∧ G.next + 3 ≤ st.heap.next ∧ st.heap.get ba = some (.cells [ax]) ∧ st.heap.get (G.next + 1) = some (.cells z6) ∧
      st.heap.get bl = some (.cells [aint m]) ∧ st.heap.get bb = some (.cells [aint (badK args 0 (t.lv.take i))]) ∧ Ext (put2 bl bb m [aint (badK args 0 (t.lv.take i))] G) st.heap ∧
      ∃ x l, st.heap.get (G.next + 1 + 1) = some (.cells [aint 10, aint 0, abl false, .v (.string t.name), x, nils]) ∧ OutS st.heap (G.next + 3) 2 i l x ∧ LvsX (subM args (t.lv.take i)) l) ?_ ?_ ?_
    · refine ⟨rfl, rfl, rfl, rfl, rfl, rfl, rfl, Nat.le_refl _, ?_, ?_, ?_, ?_, ?_, nils, [], ?_, .nil, rfl⟩
      · simp -implicitDefEqProofs only [go_sem, Nat.reduceEqDiff, Nat.reduceAdd, Nat.reduceLeDiff, ↓reduceIte, reduceCtorEq, Int.reduceBEq, Int.reduceBNe, Int.reduceLT, Int.reduceLE, Int.reduceGT, Int.reduceGE, Int.reduceNeg, Int.reduceAdd, Int.reduceSub, Nat.reduceMul, Nat.reduceLT, Int.reduceToNat, show ¬ ba = G.next by omega, show ¬ ba = G.next + 1 by omega, show ¬ ba = G.next + 1 + 1 by omega, hga]
      · simp -implicitDefEqProofs only [go_sem, Nat.reduceEqDiff, Nat.reduceAdd, Nat.reduceLeDiff, ↓reduceIte, reduceCtorEq, Int.reduceBEq, Int.reduceBNe, Int.reduceLT, Int.reduceLE, Int.reduceGT, Int.reduceGE, Int.reduceNeg, Int.reduceAdd, Int.reduceSub, Nat.reduceMul, Nat.reduceLT, Int.reduceToNat, e1, e2, e3, e4, e5, e6]
      · simp -implicitDefEqProofs only [go_sem, Nat.reduceEqDiff, Nat.reduceAdd, Nat.reduceLeDiff, ↓reduceIte, reduceCtorEq, Int.reduceBEq, Int.reduceBNe, Int.reduceLT, Int.reduceLE, Int.reduceGT, Int.reduceGE, Int.reduceNeg, Int.reduceAdd, Int.reduceSub, Nat.reduceMul, Nat.reduceLT, Int.reduceToNat, show ¬ bl = G.next by omega, show ¬ bl = G.next + 1 by omega, show ¬ bl = G.next + 1 + 1 by omega, hgl]
      · simp -implicitDefEqProofs only [go_sem, Nat.reduceEqDiff, Nat.reduceAdd, Nat.reduceLeDiff, ↓reduceIte, reduceCtorEq, Int.reduceBEq, Int.reduceBNe, Int.reduceLT, Int.reduceLE, Int.reduceGT, Int.reduceGE, Int.reduceNeg, Int.reduceAdd, Int.reduceSub, Nat.reduceMul, Nat.reduceLT, Int.reduceToNat, f1, f2, f3, hgb]; rfl
      · exact (Ext.self2 hgl hgb ((((((Ext.refl G).new _).new _).new _).set (by omega) _).set (by omega) _))
      · simp -implicitDefEqProofs only [go_sem, Nat.reduceEqDiff, Nat.reduceAdd, Nat.reduceLeDiff, ↓reduceIte, reduceCtorEq, Int.reduceBEq, Int.reduceBNe, Int.reduceLT, Int.reduceLE, Int.reduceGT, Int.reduceGE, Int.reduceNeg, Int.reduceAdd, Int.reduceSub, Nat.reduceMul, Nat.reduceLT, Int.reduceToNat, e1, e2, e3, e4, e5, e6]
    · rintro i ⟨tm, H2⟩ hi ⟨t2, t3, t6, t8, t38, t39, t40, hnx, ga, g1, gl, gb, hE, x, l, g2, hO, hX⟩
      simp only at t2 t3 t6 t8 t38 t39 t40 hnx ga g1 gl gb hE g2 hO
      have hltI : (i : Int) < (t.lv.length : Int) := by omega
      have hix := hl1.aix 2 hi
      obtain ⟨vx, vs, hle, hld, hv1, hv2⟩ := hl2.at (List.getElem?_eq_getElem hi)
      have hlvl := hb.2.2.2.1
      have w3 : IntKind.i64.wrap ((i : Int) + 1) = (i : Int) + 1 := i64_ok _ (by omega)
      have hvb := (hb.2.2.2.2.2 _ (List.getElem_mem hi)).2.1
      have hbt := badK_take args 0 t.lv i hi
      have hst : subM args (t.lv.take (i + 1)) = subM args (t.lv.take i) ++ [(SubLF t.lv[i] args).1] := by
        rw [List.take_succ_eq_append_getElem hi, subM, subM, List.map_append]; rfl
      have m0 : ¬ G.next + 1 = H2.next := by omega
      have m1 : ¬ G.next + 1 + 1 = H2.next := by omega
      have m2 : ¬ bb = H2.next := by omega
      have m3 : ¬ ba = H2.next := by omega
      have m4 : ¬ bl = H2.next := by omega
      have m5 : ¬ G.next + 1 = H2.next + 1 := by omega
      have m6 : ¬ G.next + 1 + 1 = H2.next + 1 := by omega
      have m7 : ¬ bb = H2.next + 1 := by omega
      have m8 : ¬ ba = H2.next + 1 := by omega
      have m9 : ¬ bl = H2.next + 1 := by omega
      have m10 : ¬ H2.next = H2.next + 1 := by omega
      have m11 : ¬ H2.next + 1 = H2.next := by omega
      have m12 : ¬ H2.next = bb := by omega
      have m13 : ¬ H2.next + 1 = bb := by omega
      have m14 : ¬ G.next + 1 + 1 = bb := by omega
      have m15 : ¬ G.next + 1 = bb := by omega
      have m16 : ¬ bb = G.next + 1 + 1 := by omega
      simp -implicitDefEqProofs only [go_sem, Nat.reduceEqDiff, Nat.reduceAdd, Nat.reduceLeDiff, ↓reduceIte, reduceCtorEq, Int.reduceBEq, Int.reduceBNe, Int.reduceLT, Int.reduceLE, Int.reduceGT, Int.reduceGE, Int.reduceNeg, Int.reduceAdd, Int.reduceSub, Nat.reduceMul, Nat.reduceLT, Int.reduceToNat, t2, t3, t6, t8, t38, t39, t40, hltI, hix, hle, hld, hv1.one, hv1.cells, ga, gb, m0, m1, m2, m3, m4]
      refine i_callA (fs := []) (cs := []) (fid := 148) ?_ ?_ (subL_ok t.lv[i] vx vs hv1 hv2 (by omega) args ax as' ha1 ha2 hal hav _) ?_
      · rfl
      · simp -implicitDefEqProofs only [go_sem, Nat.reduceEqDiff, Nat.reduceAdd, Nat.reduceLeDiff, ↓reduceIte, reduceCtorEq, Int.reduceBEq, Int.reduceBNe, Int.reduceLT, Int.reduceLE, Int.reduceGT, Int.reduceGE, Int.reduceNeg, Int.reduceAdd, Int.reduceSub, Nat.reduceMul, Nat.reduceLT, Int.reduceToNat]
      rintro z H4 ⟨hz, hHH⟩
      have hHH := hHH.symm
      subst hHH
      obtain ⟨yz, cz, rfl, hz1, hz2, hz3⟩ := hz.parts
      generalize hse : (SubLF t.lv[i] args).2 = se at *
      generalize hsl : (SubLF t.lv[i] args).1 = sl at *
      generalize hbk : badK args 0 (t.lv.take i) = bk at *
      have hHb : Ext (put2 bl bb m [aint bk] G) ((((H2.new (.cells [aint 0, nils])).set H2.next (.cells [aint t.lv[i].n, vx])).new (.cells [aint 0, nils])).set (H2.next + 1) (.cells [aint sl.n, yz])) := (((hE.new _).set (by rw [put2_next]; omega) _).new _).set (by rw [put2_next]; omega) _
      have hOb : OutS ((((H2.new (.cells [aint 0, nils])).set H2.next (.cells [aint t.lv[i].n, vx])).new (.cells [aint 0, nils])).set (H2.next + 1) (.cells [aint sl.n, yz])) (G.next + 3) 2 i l x := (((hO.new _).set (hO.high (Nat.le_refl _)) _).new _).set (hO.high (by omega)) _
      by_cases hc : ¬ se = 0 ∧ bk = 0
      · rw [if_pos hc] at hbt
        obtain ⟨hc1, hc2⟩ := hc
        subst hc2
        simp -implicitDefEqProofs only [go_sem, Nat.reduceEqDiff, Nat.reduceAdd, Nat.reduceLeDiff, ↓reduceIte, reduceCtorEq, Int.reduceBEq, Int.reduceBNe, Int.reduceLT, Int.reduceLE, Int.reduceGT, Int.reduceGE, Int.reduceNeg, Int.reduceAdd, Int.reduceSub, Nat.reduceMul, Nat.reduceLT, Int.reduceToNat, t2, t3, t6, t8, t38, t39, t40, hltI, ga, g1, gl, gb, g2, m0, m1, m2, m3, m4, m5, m6, m7, m8, m9, m10, m11, m12, m13, m14, m15, m16, bne' hc1, hz2.one, hz2.cells, hO.one, hO.cells, afill]
        have hgl3 : ((((H2.new (.cells [aint 0, nils])).set H2.next (.cells [aint t.lv[i].n, vx])).new (.cells [aint 0, nils])).set (H2.next + 1) (.cells [aint sl.n, yz])).get bl = some (.cells [aint m]) := by simp -implicitDefEqProofs only [go_sem, Nat.reduceEqDiff, Nat.reduceAdd, Nat.reduceLeDiff, ↓reduceIte, reduceCtorEq, Int.reduceBEq, Int.reduceBNe, Int.reduceLT, Int.reduceLE, Int.reduceGT, Int.reduceGE, Int.reduceNeg, Int.reduceAdd, Int.reduceSub, Nat.reduceMul, Nat.reduceLT, Int.reduceToNat, m4, m9, gl]
        have hHb2 := hHb.put2 (m' := m) (c' := [aint se])
        rw [← set_bb hgl3] at hHb2
        refine (((hOb.set (hO.notlow (by omega)) _)).new _).stepN (m := 1) (new := [aint sl.n, yz]) (asrc_slc (c := [aint sl.n, yz]) (by rw [new_get]; exact if_pos rfl) (by simp)) (by simp [slv_one hz1, one_int]) (by omega) (by omega) ⟨by omega, by omega⟩ rfl fun x' G' r6 r7 r8 => ?_
        simp only [new_next, set_next] at r6 r7
        have hGo : ∀ b, b < G.next + 3 → G'.get b = if b = bb then some (.cells [aint se]) else H2.get b := fun b hb => by
          rw [r8 b (by simp only [new_next, set_next]; omega) (hO.notlow hb), new_get, if_neg (by simp only [new_next, set_next]; omega)]
          rw [set_get]; split
          · rfl
          · rw [set_get, if_neg (by omega), new_get, if_neg (by simp only [new_next, set_next]; omega), set_get, if_neg (by omega), new_get, if_neg (by omega)]
        have va : G'.get ba = some (.cells [ax]) := by rw [hGo _ (by omega), if_neg (by omega)]; exact ga
        have v1 : G'.get (G.next + 1) = some (.cells z6) := by rw [hGo _ (by omega), if_neg (by omega)]; exact g1
        have v2 : G'.get (G.next + 1 + 1) = some (.cells [aint 10, aint 0, abl false, .v (.string t.name), x, nils]) := by rw [hGo _ (by omega), if_neg (by omega)]; exact g2
        have vl : G'.get bl = some (.cells [aint m]) := by rw [hGo _ (by omega), if_neg hne]; exact gl
        have vb : G'.get bb = some (.cells [aint se]) := by rw [hGo _ (by omega), if_pos rfl]
        have hEG : Ext (put2 bl bb m [aint se] G) G' := ⟨by rw [put2_next]; omega, fun b hb => by
          rw [put2_next] at hb
          rw [r8 b (by simp only [new_next, set_next]; omega) (hO.notlow (by omega)), new_get, if_neg (by simp only [new_next, set_next]; omega)]
          exact hHb2.2 b (by rw [put2_next]; exact hb)⟩
        simp -implicitDefEqProofs only [go_sem, Nat.reduceEqDiff, Nat.reduceAdd, Nat.reduceLeDiff, ↓reduceIte, reduceCtorEq, Int.reduceBEq, Int.reduceBNe, Int.reduceLT, Int.reduceLE, Int.reduceGT, Int.reduceGE, Int.reduceNeg, Int.reduceAdd, Int.reduceSub, Nat.reduceMul, Nat.reduceLT, Int.reduceToNat, t8, t40, v2, w3, hO.one, hO.cells, r6.one, r6.cells, m14, m15, m16, e4, e6]
        rw [hbt, hst]
        refine ⟨t2, t3, t6, t38, t39, by simp, by omega, ?_, v1, ?_, ?_, hEG.set (by rw [put2_next]; omega) _, x', l ++ [aint sl.n, yz], rfl, (r6.low (by omega)).set (r6.notlow (by omega)) _, hX.snoc hz1⟩
        · rw [if_neg (by omega)]; exact va
        · rw [if_neg (by omega)]; exact vl
        · exact vb
      · rw [if_neg hc] at hbt
        by_cases hse0 : se = 0
        · have hseb : (se == 0) = true := by rw [hse0]; rfl
          simp -implicitDefEqProofs only [go_sem, Nat.reduceEqDiff, Nat.reduceAdd, Nat.reduceLeDiff, ↓reduceIte, reduceCtorEq, Int.reduceBEq, Int.reduceBNe, Int.reduceLT, Int.reduceLE, Int.reduceGT, Int.reduceGE, Int.reduceNeg, Int.reduceAdd, Int.reduceSub, Nat.reduceMul, Nat.reduceLT, Int.reduceToNat, t2, t3, t6, t8, t38, t39, t40, hltI, ga, g1, gl, gb, g2, m0, m1, m2, m3, m4, m5, m6, m7, m8, m9, m10, m11, m12, m13, m14, m15, m16, hse0, hseb, hz2.one, hz2.cells, hO.one, hO.cells, afill]
          refine ((hOb).new _).stepN (m := 1) (new := [aint sl.n, yz]) (asrc_slc (c := [aint sl.n, yz]) (by rw [new_get]; exact if_pos rfl) (by simp)) (by simp [slv_one hz1, one_int]) (by omega) (by omega) ⟨by omega, by omega⟩ rfl fun x' G' r6 r7 r8 => ?_
          simp only [new_next, set_next] at r6 r7
          have hGo : ∀ b, b < G.next + 3 → G'.get b = H2.get b := fun b hb => by
            rw [r8 b (by simp only [new_next, set_next]; omega) (hO.notlow hb), new_get, if_neg (by simp only [new_next, set_next]; omega)]
            skip
            rw [set_get, if_neg (by omega), new_get, if_neg (by simp only [new_next, set_next]; omega), set_get, if_neg (by omega), new_get, if_neg (by omega)]
          have va : G'.get ba = some (.cells [ax]) := by rw [hGo _ (by omega)]; exact ga
          have v1 : G'.get (G.next + 1) = some (.cells z6) := by rw [hGo _ (by omega)]; exact g1
          have v2 : G'.get (G.next + 1 + 1) = some (.cells [aint 10, aint 0, abl false, .v (.string t.name), x, nils]) := by rw [hGo _ (by omega)]; exact g2
          have vl : G'.get bl = some (.cells [aint m]) := by rw [hGo _ (by omega)]; exact gl
          have vb : G'.get bb = some (.cells [aint bk]) := by rw [hGo _ (by omega)]; exact gb
          have hEG : Ext (put2 bl bb m [aint bk] G) G' := ⟨by rw [put2_next]; omega, fun b hb => by
            rw [put2_next] at hb
            rw [r8 b (by simp only [new_next, set_next]; omega) (hO.notlow (by omega)), new_get, if_neg (by simp only [new_next, set_next]; omega)]
            exact hHb.2 b (by rw [put2_next]; exact hb)⟩
          simp -implicitDefEqProofs only [go_sem, Nat.reduceEqDiff, Nat.reduceAdd, Nat.reduceLeDiff, ↓reduceIte, reduceCtorEq, Int.reduceBEq, Int.reduceBNe, Int.reduceLT, Int.reduceLE, Int.reduceGT, Int.reduceGE, Int.reduceNeg, Int.reduceAdd, Int.reduceSub, Nat.reduceMul, Nat.reduceLT, Int.reduceToNat, t8, t40, v2, w3, hO.one, hO.cells, r6.one, r6.cells, m14, m15, m16, e4, e6]
          rw [hbt, hst]
          refine ⟨t2, t3, t6, t38, t39, by simp, by omega, ?_, v1, ?_, ?_, hEG.set (by rw [put2_next]; omega) _, x', l ++ [aint sl.n, yz], rfl, (r6.low (by omega)).set (r6.notlow (by omega)) _, hX.snoc hz1⟩
          · rw [if_neg (by omega)]; exact va
          · rw [if_neg (by omega)]; exact vl
          · exact vb
        · have hbk0 : ¬ bk = 0 := fun h => hc ⟨hse0, h⟩
          simp -implicitDefEqProofs only [go_sem, Nat.reduceEqDiff, Nat.reduceAdd, Nat.reduceLeDiff, ↓reduceIte, reduceCtorEq, Int.reduceBEq, Int.reduceBNe, Int.reduceLT, Int.reduceLE, Int.reduceGT, Int.reduceGE, Int.reduceNeg, Int.reduceAdd, Int.reduceSub, Nat.reduceMul, Nat.reduceLT, Int.reduceToNat, t2, t3, t6, t8, t38, t39, t40, hltI, ga, g1, gl, gb, g2, m0, m1, m2, m3, m4, m5, m6, m7, m8, m9, m10, m11, m12, m13, m14, m15, m16, bne' hse0, bne' hbk0, hz2.one, hz2.cells, hO.one, hO.cells, afill]
          refine ((hOb).new _).stepN (m := 1) (new := [aint sl.n, yz]) (asrc_slc (c := [aint sl.n, yz]) (by rw [new_get]; exact if_pos rfl) (by simp)) (by simp [slv_one hz1, one_int]) (by omega) (by omega) ⟨by omega, by omega⟩ rfl fun x' G' r6 r7 r8 => ?_
          simp only [new_next, set_next] at r6 r7
          have hGo : ∀ b, b < G.next + 3 → G'.get b = H2.get b := fun b hb => by
            rw [r8 b (by simp only [new_next, set_next]; omega) (hO.notlow hb), new_get, if_neg (by simp only [new_next, set_next]; omega)]
            skip
            rw [set_get, if_neg (by omega), new_get, if_neg (by simp only [new_next, set_next]; omega), set_get, if_neg (by omega), new_get, if_neg (by omega)]
          have va : G'.get ba = some (.cells [ax]) := by rw [hGo _ (by omega)]; exact ga
          have v1 : G'.get (G.next + 1) = some (.cells z6) := by rw [hGo _ (by omega)]; exact g1
          have v2 : G'.get (G.next + 1 + 1) = some (.cells [aint 10, aint 0, abl false, .v (.string t.name), x, nils]) := by rw [hGo _ (by omega)]; exact g2
          have vl : G'.get bl = some (.cells [aint m]) := by rw [hGo _ (by omega)]; exact gl
          have vb : G'.get bb = some (.cells [aint bk]) := by rw [hGo _ (by omega)]; exact gb
          have hEG : Ext (put2 bl bb m [aint bk] G) G' := ⟨by rw [put2_next]; omega, fun b hb => by
            rw [put2_next] at hb
            rw [r8 b (by simp only [new_next, set_next]; omega) (hO.notlow (by omega)), new_get, if_neg (by simp only [new_next, set_next]; omega)]
            exact hHb.2 b (by rw [put2_next]; exact hb)⟩
          simp -implicitDefEqProofs only [go_sem, Nat.reduceEqDiff, Nat.reduceAdd, Nat.reduceLeDiff, ↓reduceIte, reduceCtorEq, Int.reduceBEq, Int.reduceBNe, Int.reduceLT, Int.reduceLE, Int.reduceGT, Int.reduceGE, Int.reduceNeg, Int.reduceAdd, Int.reduceSub, Nat.reduceMul, Nat.reduceLT, Int.reduceToNat, t8, t40, v2, w3, hO.one, hO.cells, r6.one, r6.cells, m14, m15, m16, e4, e6]
          rw [hbt, hst]
          refine ⟨t2, t3, t6, t38, t39, by simp, by omega, ?_, v1, ?_, ?_, hEG.set (by rw [put2_next]; omega) _, x', l ++ [aint sl.n, yz], rfl, (r6.low (by omega)).set (r6.notlow (by omega)) _, hX.snoc hz1⟩
          · rw [if_neg (by omega)]; exact va
          · rw [if_neg (by omega)]; exact vl
          · exact vb
    · rintro ⟨tm, H2⟩ ⟨t2, t3, t6, t8, t38, t39, t40, hnx, ga, g1, gl, gb, hE, x, l, g2, hO, hX⟩
      simp only at t2 t3 t6 t8 t38 t39 t40 hnx ga g1 gl gb hE g2 hO
      rw [List.take_length] at hE hX
      simp -implicitDefEqProofs only [go_sem, Nat.reduceEqDiff, Nat.reduceAdd, Nat.reduceLeDiff, ↓reduceIte, reduceCtorEq, Int.reduceBEq, Int.reduceBNe, Int.reduceLT, Int.reduceLE, Int.reduceGT, Int.reduceGE, Int.reduceNeg, Int.reduceAdd, Int.reduceSub, Nat.reduceMul, Nat.reduceLT, Int.reduceToNat, t2, t3, t6, t8, t38, t39, t40, Int.lt_irrefl, g1, g2, hO.one, hO.cells]
      refine ⟨hE.set (by rw [put2_next]; omega) _, ?_⟩
      have hO2 := hO.set (b' := G.next + 1) (hO.notlow (by omega)) (.cells [aint 10, aint 0, abl false, .v (.string t.name), x, nils])
      obtain ⟨zr, h3, h4⟩ := hO2.frzOld (N := G.next) (by omega) (fun y hy => (hX.old y hy).mono (Nat.zero_le _))
      have hml : (subM args t.lv).length = t.lv.length := by simp [subM]
      rw [← hml] at h4
      have hnode : nodeL args t = .mk 10 0 false t.name (subM args t.lv) [] := by unfold nodeL; rw [hf2]; rfl
      rw [hnode]
      refine ⟨.tup [.agg [aint 10, aint 0, abl false, .v (.string t.name), zr, nils], abl true], .tup _ _ rfl fun i x y hx hy => ?_, _, rfl, tmp_bare (SlL.of hX h4)⟩
      match i, hx, hy with
      | 0, hx, hy =>
        simp at hx hy
        subst hx hy
        exact FrzN.six (.keep _ (.v _)) (.keep _ (.v _)) (.keep _ (.v _)) (.keep _ (.v _)) h3 (.keep _ (.v _))
      | 1, hx, hy => simp at hx hy; subst hx hy; exact .keep _ (.v _)
      | i + 2, hx, hy => simp at hx
end Go.Proofs.Ytooaiddfokbffaa.E

/- term.Levels, as the code does it. Conditions: none. -/
set_option linter.unusedVariables false
set_option linter.unusedSimpArgs false
namespace Go.Proofs.Ytooaiddfokbffaa.E
open Go Go.Proofs
attribute [local go_sem] s_seq s_ops s_draw s_block s_skip s_ret s_exit i_nil i_cons i_run i_runG s_condQ c_true c_false aop ev_t ev_c updO_at updO_no upd_at t_normal t_ret t_exit b_normal b_ret b_exit a_some ac_v ac_agg ac_ptr ac_slc ac_ro ac_rop ac_fn new_next set_next argTm_zero argTm_succ argTm_nil ab_bool ab_uv beq_self_eq_true Option.some_beq_some Bool.not_not beq_iff_eq decide_true decide_false Bool.not_true Bool.not_false afld aload astore apack alen_str alen_ro alen_slc alen_nil new_get set_get ite_true ite_false Option.map_some Option.bind_some ibin isShift Nat.add_zero Nat.zero_add List.length_cons List.length_nil List.drop_zero List.drop_succ_cons List.take_succ_cons List.take_zero if_true if_false setL List.set_cons_zero List.set_cons_succ List.all_cons List.all_nil one_int one_bool one_str one_nil one_ptr one_slc one_ro one_rop one_fn Bool.and_self Bool.and_true true_and and_true and_self Bool.false_eq_true post_ret post_normal resAll resOne packR Option.some.injEq exists_eq_left' List.map_cons List.map_nil List.nil_append List.append_nil List.cons_append d_nil d_cons k_nil k_cons g_op g_same g_new avBlock forall_eq' List.getElem?_cons_succ List.getElem?_cons_zero List.getElem?_nil okind gOk bne false_imp_iff forall_const imp_self implies_true true_imp_iff i_callG

mutual
def okT (args : List Lv) : Tm → Bool
  | .mk f n h s lv ks => if f = 2 ∨ f = 10 then badK args 0 lv == 0 else okKs args ks
def okKs (args : List Lv) : List Tm → Bool
  | [] => true
  | k :: r => okT args k && okKs args r
end
mutual
def lvT (args : List Lv) : Tm → Tm
  | .mk f n h s lv ks => if f = 2 ∨ f = 10 then .mk f 0 false (if f = 10 then s else zeroS) (subM args lv) [] else (bareT (.mk f n h s lv ks)).with (lvKs args ks)
def lvKs (args : List Lv) : List Tm → List Tm
  | [] => []
  | k :: r => lvT args k :: lvKs args r
end
theorem lvKs_len (args : List Lv) : ∀ ks, (lvKs args ks).length = ks.length
  | [] => rfl
  | k :: r => by simp [lvKs, lvKs_len args r]

theorem lvD_bound (args : List Lv) (t : Tm) (deep m : Int) (c : List AV) : m - ((0 : Nat) : Int) ≤ (lvD args t deep m c).2.1 ∧ (lvD args t deep m c).2.1 ≤ m := by
  unfold lvD
  split <;> simp
theorem lvD_inv (args : List Lv) (t : Tm) (deep m : Int) (c : List AV) (h : ∃ b, c = [aint b] ∧ (b = 0 ∨ b = 13)) : ∃ b, (lvD args t deep m c).2.2 = [aint b] ∧ (b = 0 ∨ b = 13) := by
  unfold lvD
  split
  · exact h
  · exact ⟨_, rfl, badK_vals args _ 0 (.inl rfl)⟩

theorem map_lv (args : List Lv) : ∀ t, ∀ deep m, (szT t : Int) ≤ m →
    (okT args t = true → (mapT (lvD args) deep m [aint 0] t).1 = lvT args t ∧ (mapT (lvD args) deep m [aint 0] t).2.2 = [aint 0]) ∧ (okT args t = false → (mapT (lvD args) deep m [aint 0] t).2.2 = [aint 13]) ∧ (mapT (lvD args) deep m [aint 13] t).2.2 = [aint 13] := by
  refine Tm.rule fun f n hd s lv ks ih deep m hm => ?_
  simp only [szT] at hm
  have h13 : (mapT (lvD args) deep m [aint 13] (.mk f n hd s lv ks)).2.2 = [aint 13] := by
    rw [mapT, if_neg (by omega)]
    have hD : lvD args (.mk f n hd s lv ks) deep (m - 1) [aint 13] = (some zeroTm, m - 1, [aint 13]) := by
      have hb : badOf [aint 13] ≠ 0 := by decide
      simp only [lvD]
      rw [if_pos (.inr hb), if_pos hb]
    rw [hD]
  refine ⟨?_, ?_, h13⟩
  all_goals
    rw [mapT, if_neg (by omega), okT]
    have hb0 : badOf [aint 0] = 0 := rfl
    by_cases hf : f = 2 ∨ f = 10
    · have hD : lvD args (.mk f n hd s lv ks) deep (m - 1) [aint 0] = (some (nodeL args (.mk f n hd s lv ks)), m - 1, [aint (badK args 0 lv)]) := by
        simp only [lvD, hb0]
        exact if_neg (by simp only [Tm.form]; omega)
      rw [hD, if_pos hf]
      simp only [beq_iff_eq, beq_eq_false_iff_ne]
      intro h
      first
        | exact ⟨by rw [lvT, if_pos hf]; rfl, by rw [h]⟩
        | rw [(badK_vals args lv 0 (.inl rfl)).resolve_left h]
    · have hD : lvD args (.mk f n hd s lv ks) deep (m - 1) [aint 0] = (none, m - 1, [aint 0]) := by
        simp only [lvD, hb0]
        exact (if_pos (by simp only [Tm.form]; omega)).trans (by simp)
      rw [hD, if_neg hf]
      simp only
      have hle : ∀ t deep m c, m - (szT t : Int) ≤ (mapT (lvD args) deep m c t).2.1 := fun t deep m c => by
        have := (map_bound (D := lvD args) (W := 0) (lvD_bound args) t deep m c).1
        simp only [Int.natCast_zero, Int.zero_add, Int.mul_one] at this
        exact this
      have key : ∀ ks', (∀ k ∈ ks', k ∈ ks) → ∀ (i : Nat) m, (szK ks' : Int) ≤ m →
          (okKs args ks' = true → (mapK (lvD args) f i deep m [aint 0] ks').1 = lvKs args ks' ∧ (mapK (lvD args) f i deep m [aint 0] ks').2.2 = [aint 0]) ∧ (okKs args ks' = false → (mapK (lvD args) f i deep m [aint 0] ks').2.2 = [aint 13]) ∧ (mapK (lvD args) f i deep m [aint 13] ks').2.2 = [aint 13] := by
        intro ks'
        induction ks' with
        | nil => intro _ i m _; simp [mapK, okKs, lvKs]
        | cons k r ih' =>
          intro hmem i m hm
          simp only [szK] at hm
          obtain ⟨q1, q2, q3⟩ := ih k (hmem k (List.mem_cons_self ..)) (underF f i deep) m (by omega)
          have hb1 := hle k (underF f i deep) m [aint 0]
          have hb2 := hle k (underF f i deep) m [aint 13]
          simp only [mapK, okKs, lvKs]
          refine ⟨fun h => ?_, fun h => ?_, ?_⟩
          · simp only [Bool.and_eq_true] at h
            obtain ⟨g1, g2⟩ := q1 h.1
            rw [g1, g2]
            obtain ⟨p1, _, _⟩ := ih' (fun k hk => hmem k (List.mem_cons_of_mem _ hk)) (i + 1) (mapT (lvD args) (underF f i deep) m [aint 0] k).2.1 (by omega)
            obtain ⟨p2, p3⟩ := p1 h.2
            exact ⟨by rw [p2], p3⟩
          · cases hk : okT args k with
            | true =>
              rw [hk, Bool.true_and] at h
              rw [(q1 hk).2]
              exact (ih' (fun k hk => hmem k (List.mem_cons_of_mem _ hk)) (i + 1) _ (by omega)).2.1 h
            | false =>
              rw [q2 hk]
              exact (ih' (fun k hk => hmem k (List.mem_cons_of_mem _ hk)) (i + 1) _ (by omega)).2.2
          · rw [q3]
            exact (ih' (fun k hk => hmem k (List.mem_cons_of_mem _ hk)) (i + 1) _ (by omega)).2.2
      intro h
      obtain ⟨k1, k2, _⟩ := key ks (fun _ h => h) 0 (m - 1) (by omega)
      first
        | exact ⟨by rw [(k1 h).1, lvT, if_neg hf], (k1 h).2⟩
        | exact k2 h

theorem right_lvb {l : Lv} (h : rightF l = true) : LvB l := by
  simp only [rightF, fineF, Bool.and_eq_true, decide_eq_true_eq, List.all_eq_true] at h
  obtain ⟨⟨h1, h2⟩, h3⟩ := h
  refine ⟨⟨by omega, by omega⟩, by omega, fun v hv => ?_⟩
  have := h3 v hv
  exact ⟨⟨by omega, by omega⟩, ⟨by omega, by omega⟩⟩
theorem subM_lvb (args : List Lv) (lv : List Lv) : ∀ l ∈ subM args lv, LvB l := by
  intro l hl
  obtain ⟨x, _, rfl⟩ := List.mem_map.1 hl
  rcases sub_err x args with ⟨_, h⟩ | h
  · exact right_lvb h
  · simp only [h]; exact right_lvb rfl

theorem tmb_lvT (args : List Lv) : ∀ t, Tm.All TmB t → Tm.All TmB (lvT args t) := by
  refine Tm.rule fun f n hd s lv ks ih ha => ?_
  simp only [Tm.All] at ha
  rw [lvT]
  split
  · have h1 := ha.1
    simp only [TmB, Tm.form, Tm.n, Tm.name, Tm.lv, Tm.kids] at h1
    refine ⟨⟨h1.1, ⟨by show (-9223372036854775808 : Int) ≤ 0; decide, by show (0 : Int) ≤ 9223372036854775807; decide⟩, ?_, ?_, by simp [Tm.kids], subM_lvb args lv⟩, trivial⟩
    · simp only [Tm.name]
      split
      · exact h1.2.2.1
      · exact Nat.zero_le _
    · simp only [Tm.lv, subM, List.length_map]; exact h1.2.2.2.1
  refine with_all (tmb_bare ha.1 (lvKs_len args ks)) ?_
  have key : ∀ ks', (∀ k ∈ ks', k ∈ ks) → Tm.AllL TmB (lvKs args ks') := by
    intro ks'
    induction ks' with
    | nil => intro _; trivial
    | cons k r ih' => intro hm; exact ⟨ih k (hm k (List.mem_cons_self ..)) (ha.2.mem k (hm k (List.mem_cons_self ..))), ih' fun k hk => hm k (List.mem_cons_of_mem _ hk)⟩
  exact key ks fun _ h => h

set_option maxRecDepth 100000 in
theorem inL_ok (args : List Lv) (ax : AV) (as' : List AV) (ha1 : SlR args.length ax as') (ha2 : LvsR args as') (hal : args.length ≤ 4611686018427387904) (hav : ∀ a ∈ args, a.vars.length ≤ 4611686018427387904)
    (t : Tm) (ha : Tm.All TmB t) (hh : htT t ≤ 1000000) (hz : szT t ≤ 1000000) (cells : List AV) (hT : TmP t cells) (H : AHeap) :
    SCall Try.prog 106 [.agg cells, ax] H fun x H' => (∃ r, TmE r (if okT args t = true then 0 else 13) x ∧ (okT args t = true → r = lvT args t)) ∧ H' = H := by
  have hT' := hT
  obtain ⟨lx, kx, hc6, p1, p2, p3, p4, p5, p6, p7, p8⟩ := hT.six
  subst hc6
  have a1 := ha1.one
  have a2 := ha1.cells
  have main : SCall Try.prog 106 [.agg [aint t.form, aint t.n, abl t.hid, .v (.string t.name), lx, kx], ax] H fun x H' => (∃ r, TmE r (if okT args t = true then 0 else 13) x ∧ (okT args t = true → r = lvT args t)) ∧ Ext H H' := by
    refine SCall.intro mixed cf106 ?_
    have d01 : ¬ H.next = H.next + 1 := by omega
    have d02 : ¬ H.next = H.next + 1 + 1 := by omega
    have d03 : ¬ H.next = H.next + 1 + 1 + 1 := by omega
    have d04 : ¬ H.next = H.next + 1 + 1 + 1 + 1 := by omega
    have d05 : ¬ H.next = H.next + 1 + 1 + 1 + 1 + 1 := by omega
    have d10 : ¬ H.next + 1 = H.next := by omega
    have d12 : ¬ H.next + 1 = H.next + 1 + 1 := by omega
    have d13 : ¬ H.next + 1 = H.next + 1 + 1 + 1 := by omega
    have d14 : ¬ H.next + 1 = H.next + 1 + 1 + 1 + 1 := by omega
    have d15 : ¬ H.next + 1 = H.next + 1 + 1 + 1 + 1 + 1 := by omega
    have d20 : ¬ H.next + 1 + 1 = H.next := by omega
    have d21 : ¬ H.next + 1 + 1 = H.next + 1 := by omega
    have d23 : ¬ H.next + 1 + 1 = H.next + 1 + 1 + 1 := by omega
    have d24 : ¬ H.next + 1 + 1 = H.next + 1 + 1 + 1 + 1 := by omega
    have d25 : ¬ H.next + 1 + 1 = H.next + 1 + 1 + 1 + 1 + 1 := by omega
    have d30 : ¬ H.next + 1 + 1 + 1 = H.next := by omega
    have d31 : ¬ H.next + 1 + 1 + 1 = H.next + 1 := by omega
    have d32 : ¬ H.next + 1 + 1 + 1 = H.next + 1 + 1 := by omega
    have d34 : ¬ H.next + 1 + 1 + 1 = H.next + 1 + 1 + 1 + 1 := by omega
    have d35 : ¬ H.next + 1 + 1 + 1 = H.next + 1 + 1 + 1 + 1 + 1 := by omega
    have d40 : ¬ H.next + 1 + 1 + 1 + 1 = H.next := by omega
    have d41 : ¬ H.next + 1 + 1 + 1 + 1 = H.next + 1 := by omega
    have d42 : ¬ H.next + 1 + 1 + 1 + 1 = H.next + 1 + 1 := by omega
    have d43 : ¬ H.next + 1 + 1 + 1 + 1 = H.next + 1 + 1 + 1 := by omega
    have d45 : ¬ H.next + 1 + 1 + 1 + 1 = H.next + 1 + 1 + 1 + 1 + 1 := by omega
    have d50 : ¬ H.next + 1 + 1 + 1 + 1 + 1 = H.next := by omega
    have d51 : ¬ H.next + 1 + 1 + 1 + 1 + 1 = H.next + 1 := by omega
    have d52 : ¬ H.next + 1 + 1 + 1 + 1 + 1 = H.next + 1 + 1 := by omega
    have d53 : ¬ H.next + 1 + 1 + 1 + 1 + 1 = H.next + 1 + 1 + 1 := by omega
    have d54 : ¬ H.next + 1 + 1 + 1 + 1 + 1 = H.next + 1 + 1 + 1 + 1 := by omega
    simp -implicitDefEqProofs only [c106, go_sem, Nat.reduceEqDiff, Nat.reduceAdd, Nat.reduceLeDiff, ↓reduceIte, reduceCtorEq, Int.reduceBEq, Int.reduceBNe, Int.reduceLT, Int.reduceLE, Int.reduceGT, Int.reduceGE, Int.reduceNeg, Int.reduceAdd, Int.reduceSub, Nat.reduceMul, Nat.reduceLT, Int.reduceToNat, p1, p2, p3, p4, a1, a2, afill, d01, d02, d03, d04, d05, d10, d12, d13, d14, d15, d20, d21, d23, d24, d25, d30, d31, d32, d34, d35, d40, d41, d42, d43, d45, d50, d51, d52, d53, d54]
    refine i_callA (fs := []) (cs := []) ?_ ?_ (none_ok _) ?_
    · rfl
    · simp -implicitDefEqProofs only [go_sem, Nat.reduceEqDiff, Nat.reduceAdd, Nat.reduceLeDiff, ↓reduceIte, reduceCtorEq, Int.reduceBEq, Int.reduceBNe, Int.reduceLT, Int.reduceLE, Int.reduceGT, Int.reduceGE, Int.reduceNeg, Int.reduceAdd, Int.reduceSub, Nat.reduceMul, Nat.reduceLT, Int.reduceToNat]
    rintro x H3 ⟨rfl, rfl⟩
    simp -implicitDefEqProofs only [go_sem, Nat.reduceEqDiff, Nat.reduceAdd, Nat.reduceLeDiff, ↓reduceIte, reduceCtorEq, Int.reduceBEq, Int.reduceBNe, Int.reduceLT, Int.reduceLE, Int.reduceGT, Int.reduceGE, Int.reduceNeg, Int.reduceAdd, Int.reduceSub, Nat.reduceMul, Nat.reduceLT, Int.reduceToNat, p1, p2, p3, p4, a1, a2, afill, d01, d02, d03, d04, d05, d10, d12, d13, d14, d15, d20, d21, d23, d24, d25, d30, d31, d32, d34, d35, d40, d41, d42, d43, d45, d50, d51, d52, d53, d54]
    generalize hG : (((((((H.new (.cells [aint t.form, aint t.n, abl t.hid, .v (.string t.name), lx, kx])).new (.cells [ax])).new (.cells z6)).new (.cells [aint 0])).set (H.next + 1 + 1 + 1) (.cells [aint 0])).new (.cells z6)).new (.cells [aint 0])).set (H.next + 1 + 1 + 1 + 1 + 1) (.cells [aint 1099511627776]) = G
    have hEG : Ext H G := by rw [← hG]; exact (((((((Ext.refl H).new _).new _).new _).new _).set (by omega) _).new _).new _ |>.set (by omega) _
    have gn : G.next = H.next + 6 := by rw [← hG]; rfl
    have g0 : G.get H.next = some (.cells [aint t.form, aint t.n, abl t.hid, .v (.string t.name), lx, kx]) := by rw [← hG]; simp -implicitDefEqProofs only [go_sem, Nat.reduceEqDiff, Nat.reduceAdd, Nat.reduceLeDiff, ↓reduceIte, reduceCtorEq, Int.reduceBEq, Int.reduceBNe, Int.reduceLT, Int.reduceLE, Int.reduceGT, Int.reduceGE, Int.reduceNeg, Int.reduceAdd, Int.reduceSub, Nat.reduceMul, Nat.reduceLT, Int.reduceToNat, d01, d02, d03, d04, d05, d10, d12, d13, d14, d15, d20, d21, d23, d24, d25, d30, d31, d32, d34, d35, d40, d41, d42, d43, d45, d50, d51, d52, d53, d54]
    have g1 : G.get (H.next + 1) = some (.cells [ax]) := by rw [← hG]; simp -implicitDefEqProofs only [go_sem, Nat.reduceEqDiff, Nat.reduceAdd, Nat.reduceLeDiff, ↓reduceIte, reduceCtorEq, Int.reduceBEq, Int.reduceBNe, Int.reduceLT, Int.reduceLE, Int.reduceGT, Int.reduceGE, Int.reduceNeg, Int.reduceAdd, Int.reduceSub, Nat.reduceMul, Nat.reduceLT, Int.reduceToNat, d01, d02, d03, d04, d05, d10, d12, d13, d14, d15, d20, d21, d23, d24, d25, d30, d31, d32, d34, d35, d40, d41, d42, d43, d45, d50, d51, d52, d53, d54]
    have g2 : G.get (H.next + 1 + 1) = some (.cells z6) := by rw [← hG]; simp -implicitDefEqProofs only [go_sem, Nat.reduceEqDiff, Nat.reduceAdd, Nat.reduceLeDiff, ↓reduceIte, reduceCtorEq, Int.reduceBEq, Int.reduceBNe, Int.reduceLT, Int.reduceLE, Int.reduceGT, Int.reduceGE, Int.reduceNeg, Int.reduceAdd, Int.reduceSub, Nat.reduceMul, Nat.reduceLT, Int.reduceToNat, d01, d02, d03, d04, d05, d10, d12, d13, d14, d15, d20, d21, d23, d24, d25, d30, d31, d32, d34, d35, d40, d41, d42, d43, d45, d50, d51, d52, d53, d54]
    have g3 : G.get (H.next + 1 + 1 + 1) = some (.cells [aint 0]) := by rw [← hG]; simp -implicitDefEqProofs only [go_sem, Nat.reduceEqDiff, Nat.reduceAdd, Nat.reduceLeDiff, ↓reduceIte, reduceCtorEq, Int.reduceBEq, Int.reduceBNe, Int.reduceLT, Int.reduceLE, Int.reduceGT, Int.reduceGE, Int.reduceNeg, Int.reduceAdd, Int.reduceSub, Nat.reduceMul, Nat.reduceLT, Int.reduceToNat, d01, d02, d03, d04, d05, d10, d12, d13, d14, d15, d20, d21, d23, d24, d25, d30, d31, d32, d34, d35, d40, d41, d42, d43, d45, d50, d51, d52, d53, d54]
    have g4 : G.get (H.next + 1 + 1 + 1 + 1) = some (.cells z6) := by rw [← hG]; simp -implicitDefEqProofs only [go_sem, Nat.reduceEqDiff, Nat.reduceAdd, Nat.reduceLeDiff, ↓reduceIte, reduceCtorEq, Int.reduceBEq, Int.reduceBNe, Int.reduceLT, Int.reduceLE, Int.reduceGT, Int.reduceGE, Int.reduceNeg, Int.reduceAdd, Int.reduceSub, Nat.reduceMul, Nat.reduceLT, Int.reduceToNat, d01, d02, d03, d04, d05, d10, d12, d13, d14, d15, d20, d21, d23, d24, d25, d30, d31, d32, d34, d35, d40, d41, d42, d43, d45, d50, d51, d52, d53, d54]
    have g5 : G.get (H.next + 1 + 1 + 1 + 1 + 1) = some (.cells [aint 1099511627776]) := by rw [← hG]; simp -implicitDefEqProofs only [go_sem, Nat.reduceEqDiff, Nat.reduceAdd, Nat.reduceLeDiff, ↓reduceIte, reduceCtorEq, Int.reduceBEq, Int.reduceBNe, Int.reduceLT, Int.reduceLE, Int.reduceGT, Int.reduceGE, Int.reduceNeg, Int.reduceAdd, Int.reduceSub, Nat.reduceMul, Nat.reduceLT, Int.reduceToNat, d01, d02, d03, d04, d05, d10, d12, d13, d14, d15, d20, d21, d23, d24, d25, d30, d31, d32, d34, d35, d40, d41, d42, d43, d45, d50, d51, d52, d53, d54]
    have hm := map_okX (fid := 147) (fs := []) (cap := [.ptr (H.next + 1 + 1 + 1) 0, .ptr (H.next + 1) 0]) (bl := H.next + 1 + 1 + 1 + 1 + 1) (bb := H.next + 1 + 1 + 1) (by omega) (X := fun G => G.get (H.next + 1) = some (.cells [ax]) ∧ H.next + 1 < G.next)
      (fun G G' m c h hE => ⟨by rw [hE.2 _ (by rw [put2_next]; exact h.2), put2_get, if_neg (by omega), if_neg (by omega)]; exact h.1, by have := hE.1; rw [put2_next] at this; omega⟩)
      (D := lvD args) (Pt := TmB) (Inv := fun c => ∃ b, c = [aint b] ∧ (b = 0 ∨ b = 13)) (W := 0) (fun t h => h) (lvD_bound args) (fun t deep m c _ h => lvD_inv args t deep m c h) (fun c h x hx => by obtain ⟨b, rfl, _⟩ := h; simp at hx; subst hx; exact .v _)
      (fun t cells deep m c G hP hT _ _ _ _ _ h7 h1 h2 h8 h9 h10 => lvD_ok args ax as' ha1 ha2 hal hav (by omega) ⟨by omega, by omega⟩ t hP cells deep m c hT h7 G h1 h2 h8 h9 h10)
      t ha _ hT' 0 1099511627776 [aint 0] (by omega) (by omega) (by omega) (by omega) ⟨0, rfl, .inl rfl⟩ G g5 g3 (by omega) (by omega) ⟨g1, by omega⟩
    obtain ⟨q1, q2, _⟩ := map_lv args t 0 1099511627776 (by omega)
    generalize hr : (mapT (lvD args) 0 1099511627776 [aint 0] t).1 = r at *
    generalize hm' : (mapT (lvD args) 0 1099511627776 [aint 0] t).2.1 = m' at *
    have hc : (mapT (lvD args) 0 1099511627776 [aint 0] t).2.2 = [aint (if okT args t = true then 0 else 13)] := by
      cases ho : okT args t with
      | true => rw [(q1 ho).2]; rfl
      | false => rw [q2 ho]; rfl
    rw [hc] at hm
    refine i_callA (fs := []) (cs := []) (fid := 123) ?_ ?_ hm ?_
    · rfl
    · simp -implicitDefEqProofs only [go_sem, Nat.reduceEqDiff, Nat.reduceAdd, Nat.reduceLeDiff, ↓reduceIte, reduceCtorEq, Int.reduceBEq, Int.reduceBNe, Int.reduceLT, Int.reduceLE, Int.reduceGT, Int.reduceGE, Int.reduceNeg, Int.reduceAdd, Int.reduceSub, Nat.reduceMul, Nat.reduceLT, Int.reduceToNat]
    rintro x H3 ⟨⟨xc, rfl, hxc⟩, rfl⟩
    obtain ⟨ax', bx', hx6, k1, k2, k3, k4, _⟩ := hxc.six
    subst hx6
    simp -implicitDefEqProofs only [go_sem, Nat.reduceEqDiff, Nat.reduceAdd, Nat.reduceLeDiff, ↓reduceIte, reduceCtorEq, Int.reduceBEq, Int.reduceBNe, Int.reduceLT, Int.reduceLE, Int.reduceGT, Int.reduceGE, Int.reduceNeg, Int.reduceAdd, Int.reduceSub, Nat.reduceMul, Nat.reduceLT, Int.reduceToNat, put2, g0, g1, g2, g3, g4, g5, d01, d02, d03, d04, d05, d10, d12, d13, d14, d15, d20, d21, d23, d24, d25, d30, d31, d32, d34, d35, d40, d41, d42, d43, d45, d50, d51, d52, d53, d54, k1, k2, k3, k4]
    refine ⟨⟨r, ⟨_, rfl, hxc⟩, fun ho => (q1 ho).1⟩, ?_⟩
    exact (((hEG.set (by omega) _).set (by omega) _).set (by omega) _).set (by omega) _
  exact main.frz fun _ _ x H' ⟨⟨r, hx, hr⟩, hE⟩ _ => ⟨hE, x, .keep _ (hx.old _), r, hx, hr⟩

def LevelsF (args : List Lv) (t : Tm) : Tm × Int := if ¬ checkF canF t = 0 then (zeroTm, checkF canF t) else if okT args t = true then toldF 0 (lvT args t) else (zeroTm, 13)

set_option maxRecDepth 100000 in
theorem Levels_ok (args : List Lv) (ax : AV) (as' : List AV) (ha1 : SlR args.length ax as') (ha2 : LvsR args as') (hal : args.length ≤ 4611686018427387904) (hav : ∀ a ∈ args, a.vars.length ≤ 4611686018427387904)
    (t : Tm) (ha : Tm.All TmB t) (cells : List AV) (hT : TmP t cells) (H : AHeap) :
    SCall Try.prog 55 [.agg cells, ax] H fun x H' => TmE (LevelsF args t).1 (LevelsF args t).2 x ∧ H' = H := by
  have hT' := hT
  obtain ⟨lx, kx, hc6, p1, p2, p3, p4, p5, p6, p7, p8⟩ := hT.six
  subst hc6
  have main : SCall Try.prog 55 [.agg [aint t.form, aint t.n, abl t.hid, .v (.string t.name), lx, kx], ax] H fun x H' => TmE (LevelsF args t).1 (LevelsF args t).2 x ∧ Ext H H' := by
    refine SCall.intro mixed cf55 ?_
    have e1 : ¬ H.next = H.next + 1 := by omega
    have e2 : ¬ H.next + 1 = H.next := by omega
    have e3 : ¬ H.next = H.next + 1 + 1 := by omega
    have e4 : ¬ H.next + 1 = H.next + 1 + 1 := by omega
    have e5 : ¬ H.next + 1 + 1 = H.next := by omega
    have e6 : ¬ H.next + 1 + 1 = H.next + 1 := by omega
    simp -implicitDefEqProofs only [c55, go_sem, Nat.reduceEqDiff, Nat.reduceAdd, Nat.reduceLeDiff, ↓reduceIte, reduceCtorEq, Int.reduceBEq, Int.reduceBNe, Int.reduceLT, Int.reduceLE, Int.reduceGT, Int.reduceGE, Int.reduceNeg, Int.reduceAdd, Int.reduceSub, Nat.reduceMul, Nat.reduceLT, Int.reduceToNat, p1, p2, p3, p4, e1, e2]
    refine i_callA (fs := []) (cs := []) ?_ ?_ (check_ok canF t (tmb_fine ha) _ hT'.1 _) ?_
    · rfl
    · simp -implicitDefEqProofs only [go_sem, Nat.reduceEqDiff, Nat.reduceAdd, Nat.reduceLeDiff, ↓reduceIte, reduceCtorEq, Int.reduceBEq, Int.reduceBNe, Int.reduceLT, Int.reduceLE, Int.reduceGT, Int.reduceGE, Int.reduceNeg, Int.reduceAdd, Int.reduceSub, Nat.reduceMul, Nat.reduceLT, Int.reduceToNat]
    rintro x H3 ⟨rfl, rfl⟩
    by_cases hc : checkF canF t = 0
    case neg =>
      simp -implicitDefEqProofs only [go_sem, Nat.reduceEqDiff, Nat.reduceAdd, Nat.reduceLeDiff, ↓reduceIte, reduceCtorEq, Int.reduceBEq, Int.reduceBNe, Int.reduceLT, Int.reduceLE, Int.reduceGT, Int.reduceGE, Int.reduceNeg, Int.reduceAdd, Int.reduceSub, Nat.reduceMul, Nat.reduceLT, Int.reduceToNat, p1, p2, p3, p4, e1, e2, afill, bne' hc]
      exact ⟨⟨z6, by simp [LevelsF, hc], by simp [LevelsF, hc]; exact tmp_zero⟩, (((Ext.refl H).new _).new _).set (by omega) _⟩
    obtain ⟨z1, z2⟩ := check_sz hc
    rw [hc]
    simp -implicitDefEqProofs only [go_sem, Nat.reduceEqDiff, Nat.reduceAdd, Nat.reduceLeDiff, ↓reduceIte, reduceCtorEq, Int.reduceBEq, Int.reduceBNe, Int.reduceLT, Int.reduceLE, Int.reduceGT, Int.reduceGE, Int.reduceNeg, Int.reduceAdd, Int.reduceSub, Nat.reduceMul, Nat.reduceLT, Int.reduceToNat, p1, p2, p3, p4, e1, e2]
    refine i_callA (fs := []) (cs := []) (fid := 106) ?_ ?_ (inL_ok args ax as' ha1 ha2 hal hav t ha (by omega) (by omega) _ hT' _) ?_
    · rfl
    · simp -implicitDefEqProofs only [go_sem, Nat.reduceEqDiff, Nat.reduceAdd, Nat.reduceLeDiff, ↓reduceIte, reduceCtorEq, Int.reduceBEq, Int.reduceBNe, Int.reduceLT, Int.reduceLE, Int.reduceGT, Int.reduceGE, Int.reduceNeg, Int.reduceAdd, Int.reduceSub, Nat.reduceMul, Nat.reduceLT, Int.reduceToNat]
    rintro x H3 ⟨⟨r, ⟨c1, rfl, h1⟩, hr⟩, rfl⟩
    obtain ⟨ux, vx, hx6, k1, k2, k3, k4, _⟩ := h1.six
    subst hx6
    cases ho : okT args t with
    | false =>
      have hF : LevelsF args t = (zeroTm, 13) := by
        unfold LevelsF
        rw [if_neg (by simp [hc]), if_neg (by simp [ho])]
      rw [hF]
      simp -implicitDefEqProofs only [go_sem, Nat.reduceEqDiff, Nat.reduceAdd, Nat.reduceLeDiff, ↓reduceIte, reduceCtorEq, Int.reduceBEq, Int.reduceBNe, Int.reduceLT, Int.reduceLE, Int.reduceGT, Int.reduceGE, Int.reduceNeg, Int.reduceAdd, Int.reduceSub, Nat.reduceMul, Nat.reduceLT, Int.reduceToNat, p1, p2, p3, p4, e1, e2, e3, e4, e5, e6, k1, k2, k3, k4, afill]
      exact ⟨⟨z6, rfl, tmp_zero⟩, (((((Ext.refl H).new _).new _).new _).set (by omega) _).set (by omega) _⟩
    | true =>
      obtain rfl := hr ho
      have hF : LevelsF args t = toldF 0 (lvT args t) := by
        unfold LevelsF
        rw [if_neg (by simp [hc]), if_pos ho]
      rw [hF]
      simp -implicitDefEqProofs only [go_sem, Nat.reduceEqDiff, Nat.reduceAdd, Nat.reduceLeDiff, ↓reduceIte, reduceCtorEq, Int.reduceBEq, Int.reduceBNe, Int.reduceLT, Int.reduceLE, Int.reduceGT, Int.reduceGE, Int.reduceNeg, Int.reduceAdd, Int.reduceSub, Nat.reduceMul, Nat.reduceLT, Int.reduceToNat, p1, p2, p3, p4, e1, e2, e3, e4, e5, e6, k1, k2, k3, k4]
      refine i_callA (fs := []) (cs := []) ?_ ?_ (told_ok (lvT args t) (tmb_lvT args t ha) _ h1 0 _) ?_
      · rfl
      · simp -implicitDefEqProofs only [go_sem, Nat.reduceEqDiff, Nat.reduceAdd, Nat.reduceLeDiff, ↓reduceIte, reduceCtorEq, Int.reduceBEq, Int.reduceBNe, Int.reduceLT, Int.reduceLE, Int.reduceGT, Int.reduceGE, Int.reduceNeg, Int.reduceAdd, Int.reduceSub, Nat.reduceMul, Nat.reduceLT, Int.reduceToNat]
      rintro x H3 ⟨⟨c3, rfl, h3⟩, rfl⟩
      obtain ⟨wx, zx, hx6, l1, l2, l3, l4, _⟩ := h3.six
      subst hx6
      simp -implicitDefEqProofs only [go_sem, Nat.reduceEqDiff, Nat.reduceAdd, Nat.reduceLeDiff, ↓reduceIte, reduceCtorEq, Int.reduceBEq, Int.reduceBNe, Int.reduceLT, Int.reduceLE, Int.reduceGT, Int.reduceGE, Int.reduceNeg, Int.reduceAdd, Int.reduceSub, Nat.reduceMul, Nat.reduceLT, Int.reduceToNat, e1, e2, e3, e4, e5, e6, l1, l2, l3, l4]
      exact ⟨⟨_, rfl, h3⟩, (((((Ext.refl H).new _).new _).new _).set (by omega) _).set (by omega) _⟩
  exact main.frz fun _ _ x H' ⟨hx, hE⟩ _ => ⟨hE, x, .keep _ (hx.old _), hx⟩
end Go.Proofs.Ytooaiddfokbffaa.E
