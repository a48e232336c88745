/- Texts of the proof, one behind the other. Conditions: none. -/
import Derived.Test.YtooaiddfokbffaaA3
/- The code of functions, as a table. Conditions: none. -/
namespace Go.Proofs.Ytooaiddfokbffaa.E
open Go Go.Proofs
def tabL : List (Nat × AFn) := [(3, c3), (4, c4), (7, c7), (8, c8), (9, c9), (11, c11), (14, c14), (15, c15), (16, c16), (17, c17), (18, c18), (19, c19), (20, c20), (21, c21), (22, c22), (23, c23), (24, c24), (25, c25), (26, c26), (27, c27), (29, c29), (32, c32), (39, c39), (40, c40), (41, c41), (42, c42), (43, c43), (44, c44), (45, c45), (52, c52), (55, c55), (56, c56), (72, c72), (73, c73), (74, c74), (75, c75), (76, c76), (77, c77), (78, c78), (79, c79), (80, c80), (81, c81), (82, c82), (83, c83), (84, c84), (85, c85), (86, c86), (87, c87), (92, c92), (93, c93), (94, c94), (95, c95), (96, c96), (97, c97), (98, c98), (106, c106), (107, c107), (123, c123), (124, c124), (125, c125), (126, c126), (127, c127), (128, c128), (129, c129), (130, c130), (131, c131), (132, c132), (138, c138), (139, c139), (140, c140), (141, c141), (142, c142), (143, c143), (147, c147), (148, c148), (149, c149), (161, c161), (171, c171), (172, c172), (173, c173), (174, c174), (176, c176), (177, c177), (178, c178), (179, c179), (180, c180), (181, c181), (182, c182), (183, c183), (184, c184), (185, c185), (197, c197), (198, c198), (199, c199), (200, c200), (201, c201), (202, c202), (203, c203), (204, c204), (211, c211)]
def tabAt : List (Nat × AFn) → Nat → Option AFn
  | [], _ => none
  | (i, F) :: r, k => if i = k then some F else tabAt r k
theorem tabAt_spec {Q : Nat → AFn → Prop} : ∀ (l : List (Nat × AFn)), (∀ p ∈ l, Q p.1 p.2) → ∀ k F, tabAt l k = some F → Q k F
  | [], _, _, _, h => by simp [tabAt] at h
  | (i, F') :: r, hl, k, F, h => by
    simp only [tabAt] at h
    split at h
    · rename_i hi
      injection h with h
      subst hi h
      exact hl (i, F') (List.mem_cons_self ..)
    · exact tabAt_spec r (fun p hp => hl p (List.mem_cons_of_mem _ hp)) k F h
theorem tabL_ok : ∀ p ∈ tabL, ∃ pl, compFn Try.prog p.1 pl = some p.2 := by
  intro p hp
  simp only [tabL, List.mem_cons, List.not_mem_nil, or_false] at hp
  rcases hp with rfl | rfl | rfl | rfl | rfl | rfl | rfl | rfl | rfl | rfl | rfl | rfl | rfl | rfl | rfl | rfl | rfl | rfl | rfl | rfl | rfl | rfl | rfl | rfl | rfl | rfl | rfl | rfl | rfl | rfl | rfl | rfl | rfl | rfl | rfl | rfl | rfl | rfl | rfl | rfl | rfl | rfl | rfl | rfl | rfl | rfl | rfl | rfl | rfl | rfl | rfl | rfl | rfl | rfl | rfl | rfl | rfl | rfl | rfl | rfl | rfl | rfl | rfl | rfl | rfl | rfl | rfl | rfl | rfl | rfl | rfl | rfl | rfl | rfl | rfl | rfl | rfl | rfl | rfl | rfl | rfl | rfl | rfl | rfl | rfl | rfl | rfl | rfl | rfl | rfl | rfl | rfl | rfl | rfl | rfl | rfl | rfl | rfl | rfl | rfl
  · exact ⟨_, cf3⟩
  · exact ⟨_, cf4⟩
  · exact ⟨_, cf7⟩
  · exact ⟨_, cf8⟩
  · exact ⟨_, cf9⟩
  · exact ⟨_, cf11⟩
  · exact ⟨_, cf14⟩
  · exact ⟨_, cf15⟩
  · exact ⟨_, cf16⟩
  · exact ⟨_, cf17⟩
  · exact ⟨_, cf18⟩
  · exact ⟨_, cf19⟩
  · exact ⟨_, cf20⟩
  · exact ⟨_, cf21⟩
  · exact ⟨_, cf22⟩
  · exact ⟨_, cf23⟩
  · exact ⟨_, cf24⟩
  · exact ⟨_, cf25⟩
  · exact ⟨_, cf26⟩
  · exact ⟨_, cf27⟩
  · exact ⟨_, cf29⟩
  · exact ⟨_, cf32⟩
  · exact ⟨_, cf39⟩
  · exact ⟨_, cf40⟩
  · exact ⟨_, cf41⟩
  · exact ⟨_, cf42⟩
  · exact ⟨_, cf43⟩
  · exact ⟨_, cf44⟩
  · exact ⟨_, cf45⟩
  · exact ⟨_, cf52⟩
  · exact ⟨_, cf55⟩
  · exact ⟨_, cf56⟩
  · exact ⟨_, cf72⟩
  · exact ⟨_, cf73⟩
  · exact ⟨_, cf74⟩
  · exact ⟨_, cf75⟩
  · exact ⟨_, cf76⟩
  · exact ⟨_, cf77⟩
  · exact ⟨_, cf78⟩
  · exact ⟨_, cf79⟩
  · exact ⟨_, cf80⟩
  · exact ⟨_, cf81⟩
  · exact ⟨_, cf82⟩
  · exact ⟨_, cf83⟩
  · exact ⟨_, cf84⟩
  · exact ⟨_, cf85⟩
  · exact ⟨_, cf86⟩
  · exact ⟨_, cf87⟩
  · exact ⟨_, cf92⟩
  · exact ⟨_, cf93⟩
  · exact ⟨_, cf94⟩
  · exact ⟨_, cf95⟩
  · exact ⟨_, cf96⟩
  · exact ⟨_, cf97⟩
  · exact ⟨_, cf98⟩
  · exact ⟨_, cf106⟩
  · exact ⟨_, cf107⟩
  · exact ⟨_, cf123⟩
  · exact ⟨_, cf124⟩
  · exact ⟨_, cf125⟩
  · exact ⟨_, cf126⟩
  · exact ⟨_, cf127⟩
  · exact ⟨_, cf128⟩
  · exact ⟨_, cf129⟩
  · exact ⟨_, cf130⟩
  · exact ⟨_, cf131⟩
  · exact ⟨_, cf132⟩
  · exact ⟨_, cf138⟩
  · exact ⟨_, cf139⟩
  · exact ⟨_, cf140⟩
  · exact ⟨_, cf141⟩
  · exact ⟨_, cf142⟩
  · exact ⟨_, cf143⟩
  · exact ⟨_, cf147⟩
  · exact ⟨_, cf148⟩
  · exact ⟨_, cf149⟩
  · exact ⟨_, cf161⟩
  · exact ⟨_, cf171⟩
  · exact ⟨_, cf172⟩
  · exact ⟨_, cf173⟩
  · exact ⟨_, cf174⟩
  · exact ⟨_, cf176⟩
  · exact ⟨_, cf177⟩
  · exact ⟨_, cf178⟩
  · exact ⟨_, cf179⟩
  · exact ⟨_, cf180⟩
  · exact ⟨_, cf181⟩
  · exact ⟨_, cf182⟩
  · exact ⟨_, cf183⟩
  · exact ⟨_, cf184⟩
  · exact ⟨_, cf185⟩
  · exact ⟨_, cf197⟩
  · exact ⟨_, cf198⟩
  · exact ⟨_, cf199⟩
  · exact ⟨_, cf200⟩
  · exact ⟨_, cf201⟩
  · exact ⟨_, cf202⟩
  · exact ⟨_, cf203⟩
  · exact ⟨_, cf204⟩
  · exact ⟨_, cf211⟩
end Go.Proofs.Ytooaiddfokbffaa.E

/- Whether a term is not too long nor too high, as the code asks it. Conditions: none. -/
set_option linter.unusedVariables false
set_option linter.unusedSimpArgs false
namespace Go.Proofs.Ytooaiddfokbffaa.E
open Go Go.Proofs
attribute [local go_sem] s_seq s_ops s_draw s_block s_skip s_ret s_exit i_nil i_cons i_run i_runG s_condQ c_true c_false aop ev_t ev_c updO_at updO_no upd_at t_normal t_ret t_exit b_normal b_ret b_exit a_some ac_v ac_agg ac_ptr ac_slc ac_ro ac_rop ac_fn new_next set_next argTm_zero argTm_succ argTm_nil ab_bool ab_uv beq_self_eq_true Option.some_beq_some Bool.not_not beq_iff_eq decide_true decide_false Bool.not_true Bool.not_false afld aload astore apack alen_str alen_ro alen_slc alen_nil new_get set_get ite_true ite_false Option.map_some Option.bind_some ibin isShift Nat.add_zero Nat.zero_add List.length_cons List.length_nil List.drop_zero List.drop_succ_cons List.take_succ_cons List.take_zero if_true if_false setL List.set_cons_zero List.set_cons_succ List.all_cons List.all_nil one_int one_bool one_str one_nil one_ptr one_slc one_ro one_rop one_fn Bool.and_self Bool.and_true true_and and_true and_self Bool.false_eq_true post_ret post_normal resAll resOne packR Option.some.injEq exists_eq_left' List.map_cons List.map_nil List.nil_append List.append_nil List.cons_append d_nil d_cons k_nil k_cons g_op g_same g_new avBlock forall_eq' List.getElem?_cons_succ List.getElem?_cons_zero List.getElem?_nil okind gOk bne false_imp_iff forall_const imp_self implies_true true_imp_iff i_callG

theorem mixed : Try.prog.follows .mixedOrders = true := by kernel_rfl

theorem i64_ok (n : Int) (h : -9223372036854775808 ≤ n ∧ n ≤ 9223372036854775807) : IntKind.i64.wrap n = n := by rw [IntKind.wrap_i64]; omega

mutual
theorem Tm.rule {p : Tm → Prop} (h : ∀ f n hd s lv ks, (∀ k ∈ ks, p k) → p (.mk f n hd s lv ks)) : ∀ t, p t
  | .mk f n hd s lv ks => h f n hd s lv ks (Tm.ruleL h ks)
theorem Tm.ruleL {p : Tm → Prop} (h : ∀ f n hd s lv ks, (∀ k ∈ ks, p k) → p (.mk f n hd s lv ks)) : ∀ (ks : List Tm), ∀ k ∈ ks, p k
  | [] => fun k hk => by cases hk
  | k0 :: ks => fun k hk => by
    rcases List.mem_cons.1 hk with hk | hk
    · rw [hk]; exact Tm.rule h k0
    · exact Tm.ruleL h ks k hk
end

theorem fit_bound : ∀ t, ∀ c high, (fitT c high t).1 = true → c < (fitT c high t).2 ∧ (fitT c high t).2 ≤ 20000 := by
  refine Tm.rule fun f n hd s lv ks ih c high h => ?_
  simp only [fitT] at h ⊢
  split at h
  · cases h
  · rename_i hno
    rw [if_neg hno]
    have hk : ∀ (ks' : List Tm), (∀ k ∈ ks', k ∈ ks) → ∀ c', c' ≤ 20000 → (fitK c' (high + 1) ks').1 = true → c' ≤ (fitK c' (high + 1) ks').2 ∧ (fitK c' (high + 1) ks').2 ≤ 20000 := by
      intro ks'
      induction ks' with
      | nil => intro _ c' hc' _; simp only [fitK]; omega
      | cons k ks' ih' =>
        intro hm c' hc' h
        simp only [fitK] at h ⊢
        split at h
        · rename_i h1
          rw [if_pos h1]
          obtain ⟨h2, h3⟩ := ih k (hm k (List.mem_cons_self ..)) c' (high + 1) h1
          obtain ⟨h4, h5⟩ := ih' (fun k hk => hm k (List.mem_cons_of_mem _ hk)) _ h3 h
          omega
        · cases h
    obtain ⟨h1, h2⟩ := hk ks (fun _ h => h) (c + 1) (by omega) h
    omega

set_option maxRecDepth 100000 in
theorem fits_ok : ∀ t, ∀ (cells : List AV), TmR t cells → ∀ (c high : Int), 0 ≤ c ∧ c ≤ 20000 → 0 ≤ high ∧ high ≤ 501 → ∀ (H : AHeap) (b : Nat), H.get b = some (.cells [aint c]) → b < H.next →
    SCall Try.prog 81 [.ptr b 0, .agg cells, aint high] H fun x H' => x = abl (fitT c high t).1 ∧ H' = H.set b (.cells [aint (fitT c high t).2]) := by
  refine Tm.rule fun f n hid s lv ks ih cells hT c high hc hh H b hb hbn => ?_
  simp only [TmR] at hT
  obtain ⟨lx, kx, ls, cs, rfl, hlx, hls, hkx, hks⟩ := hT
  have hne : b ≠ H.next := Nat.ne_of_lt hbn
  have hne' : ¬ H.next = b := fun h => hne h.symm
  have w1 : IntKind.i64.wrap (c + 1) = c + 1 := i64_ok _ (by omega)
  have main : SCall Try.prog 81 [.ptr b 0, .agg [aint f, aint n, abl hid, .v (.string s), lx, kx], aint high] H fun x H' => x = abl (fitT c high (.mk f n hid s lv ks)).1 ∧ H.next ≤ H'.next ∧
      ∀ b', b' < H.next → H'.get b' = (H.set b (.cells [aint (fitT c high (.mk f n hid s lv ks)).2])).get b' := by
    refine SCall.intro mixed cf81 ?_
    by_cases h1 : c + 1 > 20000
    · simp -implicitDefEqProofs only [c81, go_sem, Nat.reduceEqDiff, Nat.reduceAdd, Nat.reduceLeDiff, ↓reduceIte, reduceCtorEq, Int.reduceBEq, Int.reduceBNe, Int.reduceLT, Int.reduceLE, Int.reduceGT, Int.reduceGE, Int.reduceNeg, Int.reduceAdd, Int.reduceSub, Nat.reduceMul, Nat.reduceLT, Int.reduceToNat, hb, hne, hne', w1, h1, fitT, true_or]
      refine ⟨Nat.le_succ _, fun b' hb' => ?_⟩
      simp only [Nat.ne_of_lt hb', if_false]
    by_cases h2 : high > 500
    · simp -implicitDefEqProofs only [c81, go_sem, Nat.reduceEqDiff, Nat.reduceAdd, Nat.reduceLeDiff, ↓reduceIte, reduceCtorEq, Int.reduceBEq, Int.reduceBNe, Int.reduceLT, Int.reduceLE, Int.reduceGT, Int.reduceGE, Int.reduceNeg, Int.reduceAdd, Int.reduceSub, Nat.reduceMul, Nat.reduceLT, Int.reduceToNat, hb, hne, hne', w1, h1, h2, fitT, or_true]
      refine ⟨Nat.le_succ _, fun b' hb' => ?_⟩
      simp only [Nat.ne_of_lt hb', if_false]
    have hlen := fun H => hkx.alen H
    have hone := hkx.one
    have hcl := hkx.cells
    simp -implicitDefEqProofs only [c81, go_sem, Nat.reduceEqDiff, Nat.reduceAdd, Nat.reduceLeDiff, ↓reduceIte, reduceCtorEq, Int.reduceBEq, Int.reduceBNe, Int.reduceLT, Int.reduceLE, Int.reduceGT, Int.reduceGE, Int.reduceNeg, Int.reduceAdd, Int.reduceSub, Nat.reduceMul, Nat.reduceLT, Int.reduceToNat, hb, hne, hne', w1, h1, h2, fitT, or_self, hlen, hone, hcl]
    refine swp_loop (fun k st => ∃ (i : Nat) (ci : Int), k = ks.length - i ∧ i ≤ ks.length ∧ (i : Int) ≤ ci ∧ ci ≤ 20000 ∧ st.tm 0 = .ptr b 0 ∧ st.tm 2 = aint high ∧ st.tm 26 = kx ∧ st.tm 27 = aint ks.length ∧ st.tm 28 = aint i ∧
      H.next ≤ st.heap.next ∧ (∀ b', b' < H.next → st.heap.get b' = if b' = b then some (.cells [aint ci]) else H.get b') ∧ fitK (c + 1) (high + 1) ks = fitK ci (high + 1) (ks.drop i)) (k := ks.length) ⟨0, c + 1, ?_⟩ ?_
    · refine ⟨by omega, by omega, by omega, by omega, ?_, ?_, ?_, ?_, ?_, ?_, ?_, by simp⟩
      all_goals simp -implicitDefEqProofs only [go_sem, Nat.reduceEqDiff, Nat.reduceAdd, Nat.reduceLeDiff, ↓reduceIte, reduceCtorEq, Int.reduceBEq, Int.reduceBNe, Int.reduceLT, Int.reduceLE, Int.reduceGT, Int.reduceGE, Int.reduceNeg, Int.reduceAdd, Int.reduceSub, Nat.reduceMul, Nat.reduceLT, Int.reduceToNat]
      · rfl
      · exact Nat.le_succ _
      · intro b' hb'
        simp only [Nat.ne_of_lt hb', if_false]
    rintro k ⟨tm, H2⟩ ⟨i, ci, rfl, hi, hic, hci, h0, h2', h26, h27, h28, hnx, hget, hfit⟩
    simp only at h0 h2' h26 h27 h28 hnx hget
    have hb2 : H2.get b = some (.cells [aint ci]) := by rw [hget b hbn, if_pos rfl]
    by_cases hlt : i < ks.length
    · obtain ⟨kc, hkc, hle, hld⟩ := hks.load (List.getElem?_eq_getElem hlt)
      have hix := hkx.aix 6 hlt
      have hdrop : ks.drop i = ks[i] :: ks.drop (i + 1) := List.drop_eq_getElem_cons hlt
      obtain ⟨lx1, kx1, ls1, cs1, hkc6, hl1, hl2, hl3, hl4⟩ := hkc.six
      have hltI : (i : Int) < (ks.length : Int) := by omega
      have w2 : IntKind.i64.wrap (high + 1) = high + 1 := i64_ok _ (by omega)
      have w3 : IntKind.i64.wrap ((i : Int) + 1) = (i : Int) + 1 := i64_ok _ (by omega)
      subst hkc6
      simp -implicitDefEqProofs only [go_sem, Nat.reduceEqDiff, Nat.reduceAdd, Nat.reduceLeDiff, ↓reduceIte, reduceCtorEq, Int.reduceBEq, Int.reduceBNe, Int.reduceLT, Int.reduceLE, Int.reduceGT, Int.reduceGE, Int.reduceNeg, Int.reduceAdd, Int.reduceSub, Nat.reduceMul, Nat.reduceLT, Int.reduceToNat, h0, h2', h26, h27, h28, hltI, hix, hle, hld, hl1.one, hl3.one, hl1.cells, hl3.cells, w2]
      have hbh : b < H2.next := by omega
      have hbe : ¬ b = H2.next := by omega
      refine i_callA (fs := []) (cs := []) ?_ ?_ (ih ks[i] (List.getElem_mem hlt) _ hkc ci (high + 1) (by omega) (by omega) _ b ?_ ?_) ?_
      · rfl
      · simp -implicitDefEqProofs only [go_sem, Nat.reduceEqDiff, Nat.reduceAdd, Nat.reduceLeDiff, ↓reduceIte, reduceCtorEq, Int.reduceBEq, Int.reduceBNe, Int.reduceLT, Int.reduceLE, Int.reduceGT, Int.reduceGE, Int.reduceNeg, Int.reduceAdd, Int.reduceSub, Nat.reduceMul, Nat.reduceLT, Int.reduceToNat, h0, h2', w2]
      · simp only [set_get, new_get, hbe, if_false, hb2]
      · rw [set_next, new_next]; omega
      · rintro x H3 ⟨rfl, rfl⟩
        cases hf1 : (fitT ci (high + 1) ks[i]).1 with
        | true =>
          obtain ⟨hb3, hb4⟩ := fit_bound _ _ _ hf1
          have w3 : IntKind.i64.wrap ((i : Int) + 1) = (i : Int) + 1 := i64_ok _ (by omega)
          simp -implicitDefEqProofs only [go_sem, Nat.reduceEqDiff, Nat.reduceAdd, Nat.reduceLeDiff, ↓reduceIte, reduceCtorEq, Int.reduceBEq, Int.reduceBNe, Int.reduceLT, Int.reduceLE, Int.reduceGT, Int.reduceGE, Int.reduceNeg, Int.reduceAdd, Int.reduceSub, Nat.reduceMul, Nat.reduceLT, Int.reduceToNat, h28, w3]
          refine ⟨ks.length - (i + 1), by omega, i + 1, (fitT ci (high + 1) ks[i]).2, rfl, by omega, by omega, hb4, h0, h2', h26, h27, by simp, by omega, fun b' hb' => ?_, ?_⟩
          · have e1 : ¬ b' = H2.next := by omega
            simp only [e1, if_false]
            by_cases e2 : b' = b
            · rw [if_pos e2, if_pos e2]
            · rw [if_neg e2, if_neg e2, hget b' hb', if_neg e2]
          · rw [hfit, hdrop]
            simp only [fitK, hf1, if_true]
        | false =>
          simp -implicitDefEqProofs only [go_sem, Nat.reduceEqDiff, Nat.reduceAdd, Nat.reduceLeDiff, ↓reduceIte, reduceCtorEq, Int.reduceBEq, Int.reduceBNe, Int.reduceLT, Int.reduceLE, Int.reduceGT, Int.reduceGE, Int.reduceNeg, Int.reduceAdd, Int.reduceSub, Nat.reduceMul, Nat.reduceLT, Int.reduceToNat]
          have hr : fitK (c + 1) (high + 1) ks = (false, (fitT ci (high + 1) ks[i]).2) := by
            rw [hfit, hdrop]
            simp only [fitK, hf1, Bool.false_eq_true, if_false]
          rw [hr]
          refine ⟨rfl, by omega, fun b' hb' => ?_⟩
          have e1 : ¬ b' = H2.next := by omega
          simp only [e1, if_false]
          by_cases e2 : b' = b
          · rw [if_pos e2, if_pos e2]
          · rw [if_neg e2, if_neg e2, hget b' hb', if_neg e2]
    · have hir : i = ks.length := by omega
      have hltI : ¬ (i : Int) < (ks.length : Int) := by omega
      have hr : fitK (c + 1) (high + 1) ks = (true, ci) := by
        rw [hfit, hir, List.drop_length]
        rfl
      simp -implicitDefEqProofs only [go_sem, Nat.reduceEqDiff, Nat.reduceAdd, Nat.reduceLeDiff, ↓reduceIte, reduceCtorEq, Int.reduceBEq, Int.reduceBNe, Int.reduceLT, Int.reduceLE, Int.reduceGT, Int.reduceGE, Int.reduceNeg, Int.reduceAdd, Int.reduceSub, Nat.reduceMul, Nat.reduceLT, Int.reduceToNat, h27, h28, hltI, hr]
      exact ⟨hnx, fun b' hb' => hget b' hb'⟩
  refine (main.cutTo (H.set b (.cells [aint (fitT c high (.mk f n hid s lv ks)).2])) rfl ?_ ?_).mono ?_
  · intro hw b' o hg
    rw [set_get] at hg
    split at hg
    · rename_i hbb; rw [hbb]; exact hbn
    · exact hw b' o hg
  · rintro _ x H' ⟨rfl, h1, h2⟩
    refine ⟨h1, .v _, h2, fun b' hb' o hg => ?_⟩
    rw [set_get] at hg
    split at hg
    · injection hg with hg
      subst hg
      exact .inr (.cells _ fun x hx => by simp only [List.mem_cons, List.not_mem_nil, or_false] at hx; subst hx; exact .v _)
    · exact .inl hg
  · rintro x H' ⟨⟨_, rfl, _⟩, rfl⟩
    exact ⟨rfl, rfl⟩
end Go.Proofs.Ytooaiddfokbffaa.E

/- Whether a term's parts have their forms, as the code asks it. Conditions: none. -/
set_option linter.unusedVariables false
set_option linter.unusedSimpArgs false
namespace Go.Proofs.Ytooaiddfokbffaa.E
open Go Go.Proofs
attribute [local go_sem] s_seq s_ops s_draw s_block s_skip s_ret s_exit i_nil i_cons i_run i_runG s_condQ c_true c_false aop ev_t ev_c updO_at updO_no upd_at t_normal t_ret t_exit b_normal b_ret b_exit a_some ac_v ac_agg ac_ptr ac_slc ac_ro ac_rop ac_fn new_next set_next argTm_zero argTm_succ argTm_nil ab_bool ab_uv beq_self_eq_true Option.some_beq_some Bool.not_not beq_iff_eq decide_true decide_false Bool.not_true Bool.not_false afld aload astore apack alen_str alen_ro alen_slc alen_nil new_get set_get ite_true ite_false Option.map_some Option.bind_some ibin isShift Nat.add_zero Nat.zero_add List.length_cons List.length_nil List.drop_zero List.drop_succ_cons List.take_succ_cons List.take_zero if_true if_false setL List.set_cons_zero List.set_cons_succ List.all_cons List.all_nil one_int one_bool one_str one_nil one_ptr one_slc one_ro one_rop one_fn Bool.and_self Bool.and_true true_and and_true and_self Bool.false_eq_true post_ret post_normal resAll resOne packR Option.some.injEq exists_eq_left' List.map_cons List.map_nil List.nil_append List.append_nil List.cons_append d_nil d_cons k_nil k_cons g_op g_same g_new avBlock forall_eq' List.getElem?_cons_succ List.getElem?_cons_zero List.getElem?_nil okind gOk bne false_imp_iff forall_const imp_self implies_true true_imp_iff i_callG

def kidsF (f : Int) : Int := if f = 1 then 0 else if f = 2 then 0 else if f = 10 then 0 else if f = 11 then 0 else if f = 8 then 1 else if f = 9 then 1 else if f = 7 then 3 else if f = 3 then 2 else if f = 4 then 2 else if f = 5 then 2 else if f = 6 then 2 else -1

theorem bne_of {a b : Int} (h : ¬ a = b) : (a == b) = false := by simpa using h

set_option maxRecDepth 100000 in
theorem kids_ok (f : Int) (H : AHeap) : SCall Try.prog 128 [aint f] H fun x H' => x = aint (kidsF f) ∧ H' = H := by
  refine SCall.intro mixed cf128 ?_
  by_cases e1 : f = 1
  · subst e1; simp -implicitDefEqProofs only [c128, go_sem, Nat.reduceEqDiff, Nat.reduceAdd, Nat.reduceLeDiff, ↓reduceIte, reduceCtorEq, Int.reduceBEq, Int.reduceBNe, Int.reduceLT, Int.reduceLE, Int.reduceGT, Int.reduceGE, Int.reduceNeg, Int.reduceAdd, Int.reduceSub, Nat.reduceMul, Nat.reduceLT, Int.reduceToNat]; rfl
  by_cases e2 : f = 2
  · subst e2; simp -implicitDefEqProofs only [c128, go_sem, Nat.reduceEqDiff, Nat.reduceAdd, Nat.reduceLeDiff, ↓reduceIte, reduceCtorEq, Int.reduceBEq, Int.reduceBNe, Int.reduceLT, Int.reduceLE, Int.reduceGT, Int.reduceGE, Int.reduceNeg, Int.reduceAdd, Int.reduceSub, Nat.reduceMul, Nat.reduceLT, Int.reduceToNat]; rfl
  by_cases e3 : f = 10
  · subst e3; simp -implicitDefEqProofs only [c128, go_sem, Nat.reduceEqDiff, Nat.reduceAdd, Nat.reduceLeDiff, ↓reduceIte, reduceCtorEq, Int.reduceBEq, Int.reduceBNe, Int.reduceLT, Int.reduceLE, Int.reduceGT, Int.reduceGE, Int.reduceNeg, Int.reduceAdd, Int.reduceSub, Nat.reduceMul, Nat.reduceLT, Int.reduceToNat]; rfl
  by_cases e4 : f = 11
  · subst e4; simp -implicitDefEqProofs only [c128, go_sem, Nat.reduceEqDiff, Nat.reduceAdd, Nat.reduceLeDiff, ↓reduceIte, reduceCtorEq, Int.reduceBEq, Int.reduceBNe, Int.reduceLT, Int.reduceLE, Int.reduceGT, Int.reduceGE, Int.reduceNeg, Int.reduceAdd, Int.reduceSub, Nat.reduceMul, Nat.reduceLT, Int.reduceToNat]; rfl
  by_cases e5 : f = 8
  · subst e5; simp -implicitDefEqProofs only [c128, go_sem, Nat.reduceEqDiff, Nat.reduceAdd, Nat.reduceLeDiff, ↓reduceIte, reduceCtorEq, Int.reduceBEq, Int.reduceBNe, Int.reduceLT, Int.reduceLE, Int.reduceGT, Int.reduceGE, Int.reduceNeg, Int.reduceAdd, Int.reduceSub, Nat.reduceMul, Nat.reduceLT, Int.reduceToNat]; rfl
  by_cases e6 : f = 9
  · subst e6; simp -implicitDefEqProofs only [c128, go_sem, Nat.reduceEqDiff, Nat.reduceAdd, Nat.reduceLeDiff, ↓reduceIte, reduceCtorEq, Int.reduceBEq, Int.reduceBNe, Int.reduceLT, Int.reduceLE, Int.reduceGT, Int.reduceGE, Int.reduceNeg, Int.reduceAdd, Int.reduceSub, Nat.reduceMul, Nat.reduceLT, Int.reduceToNat]; rfl
  by_cases e7 : f = 7
  · subst e7; simp -implicitDefEqProofs only [c128, go_sem, Nat.reduceEqDiff, Nat.reduceAdd, Nat.reduceLeDiff, ↓reduceIte, reduceCtorEq, Int.reduceBEq, Int.reduceBNe, Int.reduceLT, Int.reduceLE, Int.reduceGT, Int.reduceGE, Int.reduceNeg, Int.reduceAdd, Int.reduceSub, Nat.reduceMul, Nat.reduceLT, Int.reduceToNat]; rfl
  by_cases e8 : f = 3
  · subst e8; simp -implicitDefEqProofs only [c128, go_sem, Nat.reduceEqDiff, Nat.reduceAdd, Nat.reduceLeDiff, ↓reduceIte, reduceCtorEq, Int.reduceBEq, Int.reduceBNe, Int.reduceLT, Int.reduceLE, Int.reduceGT, Int.reduceGE, Int.reduceNeg, Int.reduceAdd, Int.reduceSub, Nat.reduceMul, Nat.reduceLT, Int.reduceToNat]; rfl
  by_cases e9 : f = 4
  · subst e9; simp -implicitDefEqProofs only [c128, go_sem, Nat.reduceEqDiff, Nat.reduceAdd, Nat.reduceLeDiff, ↓reduceIte, reduceCtorEq, Int.reduceBEq, Int.reduceBNe, Int.reduceLT, Int.reduceLE, Int.reduceGT, Int.reduceGE, Int.reduceNeg, Int.reduceAdd, Int.reduceSub, Nat.reduceMul, Nat.reduceLT, Int.reduceToNat]; rfl
  by_cases e10 : f = 5
  · subst e10; simp -implicitDefEqProofs only [c128, go_sem, Nat.reduceEqDiff, Nat.reduceAdd, Nat.reduceLeDiff, ↓reduceIte, reduceCtorEq, Int.reduceBEq, Int.reduceBNe, Int.reduceLT, Int.reduceLE, Int.reduceGT, Int.reduceGE, Int.reduceNeg, Int.reduceAdd, Int.reduceSub, Nat.reduceMul, Nat.reduceLT, Int.reduceToNat]; rfl
  by_cases e11 : f = 6
  · subst e11; simp -implicitDefEqProofs only [c128, go_sem, Nat.reduceEqDiff, Nat.reduceAdd, Nat.reduceLeDiff, ↓reduceIte, reduceCtorEq, Int.reduceBEq, Int.reduceBNe, Int.reduceLT, Int.reduceLE, Int.reduceGT, Int.reduceGE, Int.reduceNeg, Int.reduceAdd, Int.reduceSub, Nat.reduceMul, Nat.reduceLT, Int.reduceToNat]; rfl
  simp -implicitDefEqProofs only [c128, go_sem, Nat.reduceEqDiff, Nat.reduceAdd, Nat.reduceLeDiff, ↓reduceIte, reduceCtorEq, Int.reduceBEq, Int.reduceBNe, Int.reduceLT, Int.reduceLE, Int.reduceGT, Int.reduceGE, Int.reduceNeg, Int.reduceAdd, Int.reduceSub, Nat.reduceMul, Nat.reduceLT, Int.reduceToNat, bne_of e1, bne_of e2, bne_of e3, bne_of e4, bne_of e5, bne_of e6, bne_of e7, bne_of e8, bne_of e9, bne_of e10, bne_of e11]
  simp only [kidsF, e1, e2, e3, e4, e5, e6, e7, e8, e9, e10, e11, if_false]

/-- The code tells whether a level is canonical. -/
def CanSpec (r : Lv → Bool) (l : Lv) : Prop := ∀ (vx : AV) (vs : List AV) (H : AHeap), SlR l.vars.length vx vs → VarsR l.vars vs → SCall Try.prog 173 [.agg [aint l.n, vx]] H fun x H' => x = abl (r l) ∧ H' = H

set_option maxRecDepth 100000 in
theorem levels_ok (r : Lv → Bool) (lv : List Lv) (lx : AV) (ls : List AV) (h1 : SlR lv.length lx ls) (h2 : LvsR lv ls) (hn : lv.length ≤ 4611686018427387904) (hc : ∀ l ∈ lv, CanSpec r l) (H : AHeap) :
    SCall Try.prog 129 [lx] H fun x H' => x = abl (lv.all r) ∧ H' = H := by
  refine SCall.val (SCall.intro mixed cf129 ?_)
  simp -implicitDefEqProofs only [c129, go_sem, Nat.reduceEqDiff, Nat.reduceAdd, Nat.reduceLeDiff, ↓reduceIte, reduceCtorEq, Int.reduceBEq, Int.reduceBNe, Int.reduceLT, Int.reduceLE, Int.reduceGT, Int.reduceGE, Int.reduceNeg, Int.reduceAdd, Int.reduceSub, Nat.reduceMul, Nat.reduceLT, Int.reduceToNat, fun H => h1.alen H]
  refine swp_loop (fun k st => ∃ (i : Nat), k = lv.length - i ∧ i ≤ lv.length ∧ st.tm 5 = lx ∧ st.tm 6 = aint lv.length ∧ st.tm 7 = aint i ∧ Ext H st.heap ∧ lv.all r = (lv.drop i).all r) (k := lv.length) ⟨0, ?_⟩ ?_
  · refine ⟨by omega, by omega, rfl, rfl, rfl, ⟨Nat.le_refl _, fun _ _ => rfl⟩, by simp⟩
  rintro k ⟨tm, H2⟩ ⟨i, rfl, hi, h5, h6, h7, ⟨hx1, hx2⟩, hr⟩
  simp only at h5 h6 h7 hx1 hx2
  by_cases hlt : i < lv.length
  · obtain ⟨vx, vs, hle, hld, hv1, hv2⟩ := h2.at (List.getElem?_eq_getElem hlt)
    have hix := h1.aix 2 hlt
    have hltI : (i : Int) < (lv.length : Int) := by omega
    have w3 : IntKind.i64.wrap ((i : Int) + 1) = (i : Int) + 1 := i64_ok _ (by omega)
    have hdrop : lv.drop i = lv[i] :: lv.drop (i + 1) := List.drop_eq_getElem_cons hlt
    simp -implicitDefEqProofs only [go_sem, Nat.reduceEqDiff, Nat.reduceAdd, Nat.reduceLeDiff, ↓reduceIte, reduceCtorEq, Int.reduceBEq, Int.reduceBNe, Int.reduceLT, Int.reduceLE, Int.reduceGT, Int.reduceGE, Int.reduceNeg, Int.reduceAdd, Int.reduceSub, Nat.reduceMul, Nat.reduceLT, Int.reduceToNat, h5, h6, h7, hltI, hix, hle, hld, hv1.one, hv1.cells]
    refine i_callA (fs := []) (cs := []) ?_ ?_ (hc lv[i] (List.getElem_mem hlt) vx vs _ hv1 hv2) ?_
    · rfl
    · simp -implicitDefEqProofs only [go_sem, Nat.reduceEqDiff, Nat.reduceAdd, Nat.reduceLeDiff, ↓reduceIte, reduceCtorEq, Int.reduceBEq, Int.reduceBNe, Int.reduceLT, Int.reduceLE, Int.reduceGT, Int.reduceGE, Int.reduceNeg, Int.reduceAdd, Int.reduceSub, Nat.reduceMul, Nat.reduceLT, Int.reduceToNat]
    · rintro x H3 ⟨rfl, rfl⟩
      cases hf : r lv[i] with
      | true =>
        simp -implicitDefEqProofs only [go_sem, Nat.reduceEqDiff, Nat.reduceAdd, Nat.reduceLeDiff, ↓reduceIte, reduceCtorEq, Int.reduceBEq, Int.reduceBNe, Int.reduceLT, Int.reduceLE, Int.reduceGT, Int.reduceGE, Int.reduceNeg, Int.reduceAdd, Int.reduceSub, Nat.reduceMul, Nat.reduceLT, Int.reduceToNat, h7, w3]
        refine ⟨lv.length - (i + 1), by omega, i + 1, rfl, by omega, h5, h6, by simp, ⟨?_, fun b hb => ?_⟩, ?_⟩
        · simp -implicitDefEqProofs only [go_sem, Nat.reduceEqDiff, Nat.reduceAdd, Nat.reduceLeDiff, ↓reduceIte, reduceCtorEq, Int.reduceBEq, Int.reduceBNe, Int.reduceLT, Int.reduceLE, Int.reduceGT, Int.reduceGE, Int.reduceNeg, Int.reduceAdd, Int.reduceSub, Nat.reduceMul, Nat.reduceLT, Int.reduceToNat]; omega
        · have e1 : ¬ b = H2.next := by omega
          simp -implicitDefEqProofs only [go_sem, Nat.reduceEqDiff, Nat.reduceAdd, Nat.reduceLeDiff, ↓reduceIte, reduceCtorEq, Int.reduceBEq, Int.reduceBNe, Int.reduceLT, Int.reduceLE, Int.reduceGT, Int.reduceGE, Int.reduceNeg, Int.reduceAdd, Int.reduceSub, Nat.reduceMul, Nat.reduceLT, Int.reduceToNat, e1]
          exact hx2 b hb
        · rw [hr, hdrop, List.all_cons, hf, Bool.true_and]
      | false =>
        simp -implicitDefEqProofs only [go_sem, Nat.reduceEqDiff, Nat.reduceAdd, Nat.reduceLeDiff, ↓reduceIte, reduceCtorEq, Int.reduceBEq, Int.reduceBNe, Int.reduceLT, Int.reduceLE, Int.reduceGT, Int.reduceGE, Int.reduceNeg, Int.reduceAdd, Int.reduceSub, Nat.reduceMul, Nat.reduceLT, Int.reduceToNat]
        refine ⟨?_, ?_, fun b hb => ?_⟩
        · rw [hr, hdrop, List.all_cons, hf]; rfl
        · simp -implicitDefEqProofs only [go_sem, Nat.reduceEqDiff, Nat.reduceAdd, Nat.reduceLeDiff, ↓reduceIte, reduceCtorEq, Int.reduceBEq, Int.reduceBNe, Int.reduceLT, Int.reduceLE, Int.reduceGT, Int.reduceGE, Int.reduceNeg, Int.reduceAdd, Int.reduceSub, Nat.reduceMul, Nat.reduceLT, Int.reduceToNat]; omega
        · have e1 : ¬ b = H2.next := by omega
          simp -implicitDefEqProofs only [go_sem, Nat.reduceEqDiff, Nat.reduceAdd, Nat.reduceLeDiff, ↓reduceIte, reduceCtorEq, Int.reduceBEq, Int.reduceBNe, Int.reduceLT, Int.reduceLE, Int.reduceGT, Int.reduceGE, Int.reduceNeg, Int.reduceAdd, Int.reduceSub, Nat.reduceMul, Nat.reduceLT, Int.reduceToNat, e1]
          exact hx2 b hb
  · have hir : i = lv.length := by omega
    have hltI : ¬ (i : Int) < (lv.length : Int) := by omega
    simp -implicitDefEqProofs only [go_sem, Nat.reduceEqDiff, Nat.reduceAdd, Nat.reduceLeDiff, ↓reduceIte, reduceCtorEq, Int.reduceBEq, Int.reduceBNe, Int.reduceLT, Int.reduceLE, Int.reduceGT, Int.reduceGE, Int.reduceNeg, Int.reduceAdd, Int.reduceSub, Nat.reduceMul, Nat.reduceLT, Int.reduceToNat, h6, h7, hltI]
    refine ⟨?_, hx1, hx2⟩
    rw [hr, hir, List.drop_length]
    rfl

def headIs (n : Int) : List Tm → Bool
  | k :: _ => k.form == n
  | [] => false

def formF (r : Lv → Bool) (t : Tm) : Bool :=
  if kidsF t.form ≠ (t.kids.length : Int) then false
  else if t.form = 1 ∨ t.form = 11 then decide (t.n ≥ 0) && decide (t.n ≤ 1073741824)
  else if t.form = 7 then headIs 6 t.kids
  else if t.form = 2 then ((t.lv.length : Int) == 1) && t.lv.all r
  else if t.form = 10 then !(t.name.data.toList == []) && decide ((t.name.size : Int) ≤ 60) && t.lv.all r
  else true

theorem ext_new (H : AHeap) (o : AObj) : Ext H (H.new o) := ⟨Nat.le_succ _, fun b hb => by rw [new_get, if_neg (Nat.ne_of_lt hb)]⟩

set_option maxRecDepth 100000 in
theorem formed_ok (r : Lv → Bool) (t : Tm) (cells : List AV) (hT : TmR t cells) (hn : t.lv.length ≤ 4611686018427387904) (hc : ∀ l ∈ t.lv, CanSpec r l) (H : AHeap) :
    SCall Try.prog 84 [.agg cells] H fun x H' => x = abl (formF r t) ∧ H' = H := by
  refine SCall.val (SCall.intro mixed cf84 ?_)
  obtain ⟨f, n, hid, s, lv, ks⟩ := t
  obtain ⟨lx, kx, ls, cs, rfl, hl1, hl2, hk1, hk2⟩ := hT.six
  simp only [Tm.form, Tm.n, Tm.hid, Tm.name, Tm.lv, Tm.kids] at *
  have w1 := fun H => hk1.alen H
  have w2 := fun H => hl1.alen H
  simp -implicitDefEqProofs only [c84, go_sem, Nat.reduceEqDiff, Nat.reduceAdd, Nat.reduceLeDiff, ↓reduceIte, reduceCtorEq, Int.reduceBEq, Int.reduceBNe, Int.reduceLT, Int.reduceLE, Int.reduceGT, Int.reduceGE, Int.reduceNeg, Int.reduceAdd, Int.reduceSub, Nat.reduceMul, Nat.reduceLT, Int.reduceToNat, hk1.one, hl1.one, hk1.cells, hl1.cells, w1, w2]
  refine i_callA (fs := []) (cs := []) ?_ ?_ (kids_ok f _) ?_
  · rfl
  · simp -implicitDefEqProofs only [go_sem, Nat.reduceEqDiff, Nat.reduceAdd, Nat.reduceLeDiff, ↓reduceIte, reduceCtorEq, Int.reduceBEq, Int.reduceBNe, Int.reduceLT, Int.reduceLE, Int.reduceGT, Int.reduceGE, Int.reduceNeg, Int.reduceAdd, Int.reduceSub, Nat.reduceMul, Nat.reduceLT, Int.reduceToNat]
  rintro x H3 ⟨rfl, rfl⟩
  have hE : ∀ o, Ext H (H.new o) := ext_new H
  by_cases hk : kidsF f = (ks.length : Int)
  case neg =>
    simp -implicitDefEqProofs only [go_sem, Nat.reduceEqDiff, Nat.reduceAdd, Nat.reduceLeDiff, ↓reduceIte, reduceCtorEq, Int.reduceBEq, Int.reduceBNe, Int.reduceLT, Int.reduceLE, Int.reduceGT, Int.reduceGE, Int.reduceNeg, Int.reduceAdd, Int.reduceSub, Nat.reduceMul, Nat.reduceLT, Int.reduceToNat, w1, w2, bne_of hk]
    refine ⟨?_, hE _⟩
    simp only [formF, Tm.form, Tm.kids, ne_eq, hk, not_false_eq_true, if_true]
  have hkb : (kidsF f == (ks.length : Int)) = true := by simpa using hk
  have hform : formF r (.mk f n hid s lv ks) = if f = 1 ∨ f = 11 then decide (n ≥ 0) && decide (n ≤ 1073741824)
      else if f = 7 then headIs 6 ks
      else if f = 2 then ((lv.length : Int) == 1) && lv.all r
      else if f = 10 then !(s.data.toList == []) && decide ((s.size : Int) ≤ 60) && lv.all r
      else true := by
    simp only [formF, Tm.form, Tm.kids, Tm.n, Tm.lv, Tm.name, ne_eq, hk, not_true_eq_false, if_false]
    rfl
  have hvar : f = 1 ∨ f = 11 → formF r (.mk f n hid s lv ks) = (decide (n ≥ 0) && decide (n ≤ 1073741824)) := fun h => by rw [hform, if_pos h]
  by_cases e1 : f = 1
  · have hv := hvar (.inl e1)
    subst e1
    by_cases hn0 : n ≥ 0
    · simp -implicitDefEqProofs only [go_sem, Nat.reduceEqDiff, Nat.reduceAdd, Nat.reduceLeDiff, ↓reduceIte, reduceCtorEq, Int.reduceBEq, Int.reduceBNe, Int.reduceLT, Int.reduceLE, Int.reduceGT, Int.reduceGE, Int.reduceNeg, Int.reduceAdd, Int.reduceSub, Nat.reduceMul, Nat.reduceLT, Int.reduceToNat, w1, w2, hkb, hn0]
      exact ⟨by rw [hv]; simp [hn0], hE _⟩
    · simp -implicitDefEqProofs only [go_sem, Nat.reduceEqDiff, Nat.reduceAdd, Nat.reduceLeDiff, ↓reduceIte, reduceCtorEq, Int.reduceBEq, Int.reduceBNe, Int.reduceLT, Int.reduceLE, Int.reduceGT, Int.reduceGE, Int.reduceNeg, Int.reduceAdd, Int.reduceSub, Nat.reduceMul, Nat.reduceLT, Int.reduceToNat, w1, w2, hkb, hn0]
      exact ⟨by rw [hv]; simp [hn0], hE _⟩
  by_cases e2 : f = 11
  · have hv := hvar (.inr e2)
    subst e2
    by_cases hn0 : n ≥ 0
    · simp -implicitDefEqProofs only [go_sem, Nat.reduceEqDiff, Nat.reduceAdd, Nat.reduceLeDiff, ↓reduceIte, reduceCtorEq, Int.reduceBEq, Int.reduceBNe, Int.reduceLT, Int.reduceLE, Int.reduceGT, Int.reduceGE, Int.reduceNeg, Int.reduceAdd, Int.reduceSub, Nat.reduceMul, Nat.reduceLT, Int.reduceToNat, w1, w2, hkb, hn0]
      exact ⟨by rw [hv]; simp [hn0], hE _⟩
    · simp -implicitDefEqProofs only [go_sem, Nat.reduceEqDiff, Nat.reduceAdd, Nat.reduceLeDiff, ↓reduceIte, reduceCtorEq, Int.reduceBEq, Int.reduceBNe, Int.reduceLT, Int.reduceLE, Int.reduceGT, Int.reduceGE, Int.reduceNeg, Int.reduceAdd, Int.reduceSub, Nat.reduceMul, Nat.reduceLT, Int.reduceToNat, w1, w2, hkb, hn0]
      exact ⟨by rw [hv]; simp [hn0], hE _⟩
  by_cases e3 : f = 7
  · subst e3
    have hlen : ks.length = 3 := by
      have : kidsF 7 = 3 := rfl
      omega
    obtain ⟨k, hk0⟩ : ∃ k, ks[0]? = some k := ⟨_, List.getElem?_eq_getElem (by omega)⟩
    have hhead : headIs 6 ks = (k.form == 6) := by
      cases ks with
      | nil => simp at hk0
      | cons k' ks' => simp at hk0; subst hk0; rfl
    have hix := hk1.aix 6 (i := 0) (by omega)
    obtain ⟨kc, hkc, hle, hld⟩ := hk2.load (i := 0) (k := k) hk0
    obtain ⟨lx1, kx1, ls1, cs1, hkc6, _⟩ := hkc.six
    rw [hkc6] at hld
    simp only [Nat.zero_mul, Nat.zero_add, List.drop_zero, Int.natCast_zero, Int.ofNat_zero, Int.ofNat_eq_natCast, Int.cast_ofNat_Int] at hle hld hix
    have hle1 : 1 ≤ cs.length := by omega
    have hld1 : cs.take 1 = [aint k.form] := by
      have := congrArg (List.take 1) hld
      rw [List.take_take] at this
      exact this
    simp -implicitDefEqProofs only [go_sem, Nat.reduceEqDiff, Nat.reduceAdd, Nat.reduceLeDiff, ↓reduceIte, reduceCtorEq, Int.reduceBEq, Int.reduceBNe, Int.reduceLT, Int.reduceLE, Int.reduceGT, Int.reduceGE, Int.reduceNeg, Int.reduceAdd, Int.reduceSub, Nat.reduceMul, Nat.reduceLT, Int.reduceToNat, w1, w2, hkb, hix, hle1, hld1]
    refine ⟨?_, hE _⟩
    rw [hform, hhead]
    rfl
  by_cases e4 : f = 2
  · subst e4
    have hv : formF r (.mk 2 n hid s lv ks) = (((lv.length : Int) == 1) && lv.all r) := by rw [hform]; rfl
    cases h1 : ((lv.length : Int) == 1) with
    | true =>
      simp -implicitDefEqProofs only [go_sem, Nat.reduceEqDiff, Nat.reduceAdd, Nat.reduceLeDiff, ↓reduceIte, reduceCtorEq, Int.reduceBEq, Int.reduceBNe, Int.reduceLT, Int.reduceLE, Int.reduceGT, Int.reduceGE, Int.reduceNeg, Int.reduceAdd, Int.reduceSub, Nat.reduceMul, Nat.reduceLT, Int.reduceToNat, w1, w2, hkb, h1, i_callG]
      refine i_callA (fs := []) (cs := []) ?_ ?_ (levels_ok r lv lx ls hl1 hl2 hn hc _) ?_
      · rfl
      · simp -implicitDefEqProofs only [go_sem, Nat.reduceEqDiff, Nat.reduceAdd, Nat.reduceLeDiff, ↓reduceIte, reduceCtorEq, Int.reduceBEq, Int.reduceBNe, Int.reduceLT, Int.reduceLE, Int.reduceGT, Int.reduceGE, Int.reduceNeg, Int.reduceAdd, Int.reduceSub, Nat.reduceMul, Nat.reduceLT, Int.reduceToNat]
      rintro x H3 ⟨rfl, rfl⟩
      simp -implicitDefEqProofs only [go_sem, Nat.reduceEqDiff, Nat.reduceAdd, Nat.reduceLeDiff, ↓reduceIte, reduceCtorEq, Int.reduceBEq, Int.reduceBNe, Int.reduceLT, Int.reduceLE, Int.reduceGT, Int.reduceGE, Int.reduceNeg, Int.reduceAdd, Int.reduceSub, Nat.reduceMul, Nat.reduceLT, Int.reduceToNat]
      exact ⟨by rw [hv, h1, Bool.true_and], hE _⟩
    | false =>
      simp -implicitDefEqProofs only [go_sem, Nat.reduceEqDiff, Nat.reduceAdd, Nat.reduceLeDiff, ↓reduceIte, reduceCtorEq, Int.reduceBEq, Int.reduceBNe, Int.reduceLT, Int.reduceLE, Int.reduceGT, Int.reduceGE, Int.reduceNeg, Int.reduceAdd, Int.reduceSub, Nat.reduceMul, Nat.reduceLT, Int.reduceToNat, w1, w2, hkb, h1, i_callG]
      exact ⟨by rw [hv, h1]; rfl, hE _⟩
  by_cases e5 : f = 10
  · subst e5
    have hv : formF r (.mk 10 n hid s lv ks) = (!(s.data.toList == []) && decide ((s.size : Int) ≤ 60) && lv.all r) := by rw [hform]; rfl
    cases h1 : (s.data.toList == []) with
    | true =>
      simp -implicitDefEqProofs only [go_sem, Nat.reduceEqDiff, Nat.reduceAdd, Nat.reduceLeDiff, ↓reduceIte, reduceCtorEq, Int.reduceBEq, Int.reduceBNe, Int.reduceLT, Int.reduceLE, Int.reduceGT, Int.reduceGE, Int.reduceNeg, Int.reduceAdd, Int.reduceSub, Nat.reduceMul, Nat.reduceLT, Int.reduceToNat, sbin, w1, w2, hkb, h1, i_callG]
      exact ⟨by rw [hv, h1]; rfl, hE _⟩
    | false =>
      by_cases h2 : (s.size : Int) ≤ 60
      · simp -implicitDefEqProofs only [go_sem, Nat.reduceEqDiff, Nat.reduceAdd, Nat.reduceLeDiff, ↓reduceIte, reduceCtorEq, Int.reduceBEq, Int.reduceBNe, Int.reduceLT, Int.reduceLE, Int.reduceGT, Int.reduceGE, Int.reduceNeg, Int.reduceAdd, Int.reduceSub, Nat.reduceMul, Nat.reduceLT, Int.reduceToNat, sbin, w1, w2, hkb, h1, h2, i_callG]
        refine i_callA (fs := []) (cs := []) ?_ ?_ (levels_ok r lv lx ls hl1 hl2 hn hc _) ?_
        · rfl
        · simp -implicitDefEqProofs only [go_sem, Nat.reduceEqDiff, Nat.reduceAdd, Nat.reduceLeDiff, ↓reduceIte, reduceCtorEq, Int.reduceBEq, Int.reduceBNe, Int.reduceLT, Int.reduceLE, Int.reduceGT, Int.reduceGE, Int.reduceNeg, Int.reduceAdd, Int.reduceSub, Nat.reduceMul, Nat.reduceLT, Int.reduceToNat]
        rintro x H3 ⟨rfl, rfl⟩
        simp -implicitDefEqProofs only [go_sem, Nat.reduceEqDiff, Nat.reduceAdd, Nat.reduceLeDiff, ↓reduceIte, reduceCtorEq, Int.reduceBEq, Int.reduceBNe, Int.reduceLT, Int.reduceLE, Int.reduceGT, Int.reduceGE, Int.reduceNeg, Int.reduceAdd, Int.reduceSub, Nat.reduceMul, Nat.reduceLT, Int.reduceToNat]
        exact ⟨by rw [hv, h1]; simp [h2], hE _⟩
      · simp -implicitDefEqProofs only [go_sem, Nat.reduceEqDiff, Nat.reduceAdd, Nat.reduceLeDiff, ↓reduceIte, reduceCtorEq, Int.reduceBEq, Int.reduceBNe, Int.reduceLT, Int.reduceLE, Int.reduceGT, Int.reduceGE, Int.reduceNeg, Int.reduceAdd, Int.reduceSub, Nat.reduceMul, Nat.reduceLT, Int.reduceToNat, sbin, w1, w2, hkb, h1, h2, i_callG]
        exact ⟨by rw [hv, h1]; simp [h2], hE _⟩
  simp -implicitDefEqProofs only [go_sem, Nat.reduceEqDiff, Nat.reduceAdd, Nat.reduceLeDiff, ↓reduceIte, reduceCtorEq, Int.reduceBEq, Int.reduceBNe, Int.reduceLT, Int.reduceLE, Int.reduceGT, Int.reduceGE, Int.reduceNeg, Int.reduceAdd, Int.reduceSub, Nat.reduceMul, Nat.reduceLT, Int.reduceToNat, w1, w2, hkb, bne_of e1, bne_of e2, bne_of e3, bne_of e4, bne_of e5]
  exact ⟨by rw [hform]; simp [e1, e2, e3, e4, e5], hE _⟩

end Go.Proofs.Ytooaiddfokbffaa.E

/- A term is asked, as the code asks it. Conditions: none. -/
set_option linter.unusedVariables false
set_option linter.unusedSimpArgs false
namespace Go.Proofs.Ytooaiddfokbffaa.E
open Go Go.Proofs
attribute [local go_sem] s_seq s_ops s_draw s_block s_skip s_ret s_exit i_nil i_cons i_run i_runG s_condQ c_true c_false aop ev_t ev_c updO_at updO_no upd_at t_normal t_ret t_exit b_normal b_ret b_exit a_some ac_v ac_agg ac_ptr ac_slc ac_ro ac_rop ac_fn new_next set_next argTm_zero argTm_succ argTm_nil ab_bool ab_uv beq_self_eq_true Option.some_beq_some Bool.not_not beq_iff_eq decide_true decide_false Bool.not_true Bool.not_false afld aload astore apack alen_str alen_ro alen_slc alen_nil new_get set_get ite_true ite_false Option.map_some Option.bind_some ibin isShift Nat.add_zero Nat.zero_add List.length_cons List.length_nil List.drop_zero List.drop_succ_cons List.take_succ_cons List.take_zero if_true if_false setL List.set_cons_zero List.set_cons_succ List.all_cons List.all_nil one_int one_bool one_str one_nil one_ptr one_slc one_ro one_rop one_fn Bool.and_self Bool.and_true true_and and_true and_self Bool.false_eq_true post_ret post_normal resAll resOne packR Option.some.injEq exists_eq_left' List.map_cons List.map_nil List.nil_append List.append_nil List.cons_append d_nil d_cons k_nil k_cons g_op g_same g_new avBlock forall_eq' List.getElem?_cons_succ List.getElem?_cons_zero List.getElem?_nil okind gOk bne false_imp_iff forall_const imp_self implies_true true_imp_iff i_callG

theorem anat_int (k : IntKind) (n : Nat) : anat (some (.v (.int k (n : Int)))) = some (some n) := by simp [anat]
theorem anat_none : anat none = some none := rfl

theorem Old.cell {n : Nat} {cells : List AV} (h : Old n (.agg cells)) {x : AV} (hx : x ∈ cells) : Old n x := by
  cases h with | agg _ h => exact h x hx

theorem SlR.cut {n : Nat} {x : AV} {cs : List AV} (h : SlR n x cs) (es : Nat) : ∃ y cs', aslice es x none (some n) (some n) = some y ∧ SlR n y cs' ∧ (cs' = cs ∨ n = 0) ∧ ∀ m, Old m x → Old m y := by
  rcases h with ⟨rfl, rfl⟩ | ⟨lo, ex, rfl, hlo⟩
  · exact ⟨_, cs, by simp [aslice], .inl ⟨rfl, rfl⟩, .inl rfl, fun _ h => h⟩
  · by_cases h0 : n = 0
    · subst h0
      exact ⟨.ro 0 0 true [], [], by simp [aslice, acut], .inr ⟨0, true, rfl, Nat.le_refl _⟩, .inr rfl, fun m _ => .ro _ _ _ _ fun x hx => by cases hx⟩
    · refine ⟨.ro n n true cs, cs, ?_, .inr ⟨n, true, rfl, Nat.le_refl _⟩, .inl rfl, fun m h => ?_⟩
      · have : n ≤ max n lo := Nat.le_max_left _ _
        simp [aslice, acut, this]
        omega
      · cases h with | ro _ _ _ _ h => exact .ro _ _ _ _ h

set_option maxRecDepth 100000 in
theorem parts_ok (t : Tm) (cells : List AV) (hT : TmR t cells) (H : AHeap) :
    SCall Try.prog 83 [.agg cells] H fun x H' => (∃ cs, SlR t.kids.length x cs ∧ KsR t.kids cs) ∧ H' = H := by
  obtain ⟨lx, kx, ls, cs, rfl, hl1, hl2, hk1, hk2⟩ := hT.six
  obtain ⟨y, cs', hy, hs, hcs, ho⟩ := hk1.cut 6
  have w1 := fun H => hk1.alen H
  have main : SCall Try.prog 83 [.agg [aint t.form, aint t.n, abl t.hid, .v (.string t.name), lx, kx]] H fun x H' => x = y ∧ Ext H H' := by
    refine SCall.intro mixed cf83 ?_
    simp -implicitDefEqProofs only [c83, go_sem, Nat.reduceEqDiff, Nat.reduceAdd, Nat.reduceLeDiff, ↓reduceIte, reduceCtorEq, Int.reduceBEq, Int.reduceBNe, Int.reduceLT, Int.reduceLE, Int.reduceGT, Int.reduceGE, Int.reduceNeg, Int.reduceAdd, Int.reduceSub, Nat.reduceMul, Nat.reduceLT, Int.reduceToNat, hk1.one, hl1.one, hk1.cells, hl1.cells, w1, anat_int, anat_none, hy, Option.map_none]
    exact ext_new H _
  refine (main.pure fun ha x H' ⟨h1, h2, h3⟩ => ⟨h2, ?_, h3⟩).mono ?_
  · rw [h1]
    exact ho _ ((ha _ (List.mem_cons_self ..)).cell (by simp))
  · rintro x H' ⟨⟨_, rfl, _⟩, rfl⟩
    refine ⟨⟨cs', hs, ?_⟩, rfl⟩
    rcases hcs with rfl | h0
    · exact hk2
    · rw [List.length_eq_zero_iff] at h0
      rw [h0]
      trivial

mutual
def allF (p : Tm → Bool) : Tm → Bool
  | .mk f n h s lv ks => p (.mk f n h s lv ks) && allK p ks
def allK (p : Tm → Bool) : List Tm → Bool
  | [] => true
  | k :: ks => allF p k && allK p ks
end

/-- All lists of a part are short, and its levels are asked. -/
def Fine (r : Lv → Bool) (t : Tm) : Prop := t.lv.length ≤ 4611686018427387904 ∧ t.kids.length ≤ 4611686018427387904 ∧ ∀ l ∈ t.lv, CanSpec r l

set_option maxRecDepth 100000 in
theorem all_ok (r : Lv → Bool) : ∀ t, Tm.All (Fine r) t → ∀ (cells : List AV), TmR t cells → ∀ (H : AHeap),
    SCall Try.prog 82 [.agg cells, .fn (.func 83) [] [], .fn (.func 84) [] []] H fun x H' => x = abl (allF (formF r) t) ∧ H' = H := by
  refine Tm.rule fun f n hid s lv ks ih hall cells hT H => ?_
  simp only [Tm.All] at hall
  obtain ⟨⟨hn1, hn2, hcan⟩, hallK⟩ := hall
  simp only [Tm.lv, Tm.kids] at hn1 hn2 hcan
  refine SCall.val (SCall.intro mixed cf82 ?_)
  have hT' := hT
  obtain ⟨lx, kx, ls, cs, rfl, hl1, hl2, hk1, hk2⟩ := hT.six
  simp -implicitDefEqProofs only [c82, go_sem, Nat.reduceEqDiff, Nat.reduceAdd, Nat.reduceLeDiff, ↓reduceIte, reduceCtorEq, Int.reduceBEq, Int.reduceBNe, Int.reduceLT, Int.reduceLE, Int.reduceGT, Int.reduceGE, Int.reduceNeg, Int.reduceAdd, Int.reduceSub, Nat.reduceMul, Nat.reduceLT, Int.reduceToNat, hk1.one, hl1.one, hk1.cells, hl1.cells]
  refine i_callA (fs := []) (cs := []) (fid := 84) ?_ ?_ (formed_ok r _ _ hT' hn1 hcan _) ?_
  · rfl
  · simp -implicitDefEqProofs only [go_sem, Nat.reduceEqDiff, Nat.reduceAdd, Nat.reduceLeDiff, ↓reduceIte, reduceCtorEq, Int.reduceBEq, Int.reduceBNe, Int.reduceLT, Int.reduceLE, Int.reduceGT, Int.reduceGE, Int.reduceNeg, Int.reduceAdd, Int.reduceSub, Nat.reduceMul, Nat.reduceLT, Int.reduceToNat]
  rintro x H3 ⟨rfl, rfl⟩
  cases hf : formF r (.mk f n hid s lv ks) with
  | false =>
    simp -implicitDefEqProofs only [go_sem, Nat.reduceEqDiff, Nat.reduceAdd, Nat.reduceLeDiff, ↓reduceIte, reduceCtorEq, Int.reduceBEq, Int.reduceBNe, Int.reduceLT, Int.reduceLE, Int.reduceGT, Int.reduceGE, Int.reduceNeg, Int.reduceAdd, Int.reduceSub, Nat.reduceMul, Nat.reduceLT, Int.reduceToNat]
    refine ⟨by simp only [allF, hf, Bool.false_and], ext_new H _⟩
  | true =>
  simp -implicitDefEqProofs only [go_sem, Nat.reduceEqDiff, Nat.reduceAdd, Nat.reduceLeDiff, ↓reduceIte, reduceCtorEq, Int.reduceBEq, Int.reduceBNe, Int.reduceLT, Int.reduceLE, Int.reduceGT, Int.reduceGE, Int.reduceNeg, Int.reduceAdd, Int.reduceSub, Nat.reduceMul, Nat.reduceLT, Int.reduceToNat]
  refine i_callA (fs := []) (cs := []) (fid := 83) ?_ ?_ (parts_ok _ _ hT' _) ?_
  · rfl
  · simp -implicitDefEqProofs only [go_sem, Nat.reduceEqDiff, Nat.reduceAdd, Nat.reduceLeDiff, ↓reduceIte, reduceCtorEq, Int.reduceBEq, Int.reduceBNe, Int.reduceLT, Int.reduceLE, Int.reduceGT, Int.reduceGE, Int.reduceNeg, Int.reduceAdd, Int.reduceSub, Nat.reduceMul, Nat.reduceLT, Int.reduceToNat]
  rintro x H3 ⟨⟨cs', hk1', hk2'⟩, rfl⟩
  simp only [Tm.kids] at hk1' hk2'
  simp -implicitDefEqProofs only [go_sem, Nat.reduceEqDiff, Nat.reduceAdd, Nat.reduceLeDiff, ↓reduceIte, reduceCtorEq, Int.reduceBEq, Int.reduceBNe, Int.reduceLT, Int.reduceLE, Int.reduceGT, Int.reduceGE, Int.reduceNeg, Int.reduceAdd, Int.reduceSub, Nat.reduceMul, Nat.reduceLT, Int.reduceToNat, fun H => hk1'.alen H]
  have hres : allF (formF r) (.mk f n hid s lv ks) = allK (formF r) ks := by simp only [allF, hf, Bool.true_and]
  rw [hres]
  refine swp_loop (fun k st => ∃ (i : Nat), k = ks.length - i ∧ i ≤ ks.length ∧ st.tm 1 = .fn (.func 83) [] [] ∧ st.tm 2 = .fn (.func 84) [] [] ∧ st.tm 15 = x ∧ st.tm 16 = aint ks.length ∧ st.tm 17 = aint i ∧ Ext H st.heap ∧ allK (formF r) ks = allK (formF r) (ks.drop i)) (k := ks.length) ⟨0, ?_⟩ ?_
  · exact ⟨by omega, by omega, rfl, rfl, rfl, rfl, rfl, ext_new H _, by simp⟩
  rintro k ⟨tm, H2⟩ ⟨i, rfl, hi, h1, h2, h5, h6, h7, ⟨hx1, hx2⟩, hr⟩
  simp only at h1 h2 h5 h6 h7 hx1 hx2
  by_cases hlt : i < ks.length
  · obtain ⟨kc, hkc, hle, hld⟩ := hk2'.load (List.getElem?_eq_getElem hlt)
    obtain ⟨lx1, kx1, ls1, cs1, hkc6, hm1, hm2, hm3, hm4⟩ := hkc.six
    subst hkc6
    have hix := hk1'.aix 6 hlt
    have hltI : (i : Int) < (ks.length : Int) := by omega
    have w3 : IntKind.i64.wrap ((i : Int) + 1) = (i : Int) + 1 := i64_ok _ (by omega)
    have hdrop : ks.drop i = ks[i] :: ks.drop (i + 1) := List.drop_eq_getElem_cons hlt
    simp -implicitDefEqProofs only [go_sem, Nat.reduceEqDiff, Nat.reduceAdd, Nat.reduceLeDiff, ↓reduceIte, reduceCtorEq, Int.reduceBEq, Int.reduceBNe, Int.reduceLT, Int.reduceLE, Int.reduceGT, Int.reduceGE, Int.reduceNeg, Int.reduceAdd, Int.reduceSub, Nat.reduceMul, Nat.reduceLT, Int.reduceToNat, h1, h2, h5, h6, h7, hltI, hix, hle, hld, hm1.one, hm1.cells, hm3.one, hm3.cells]
    refine i_callA (fs := []) (cs := []) (fid := 82) ?_ ?_ (ih ks[i] (List.getElem_mem hlt) (hallK.mem _ (List.getElem_mem hlt)) _ hkc _) ?_
    · rfl
    · simp -implicitDefEqProofs only [go_sem, Nat.reduceEqDiff, Nat.reduceAdd, Nat.reduceLeDiff, ↓reduceIte, reduceCtorEq, Int.reduceBEq, Int.reduceBNe, Int.reduceLT, Int.reduceLE, Int.reduceGT, Int.reduceGE, Int.reduceNeg, Int.reduceAdd, Int.reduceSub, Nat.reduceMul, Nat.reduceLT, Int.reduceToNat, h1, h2]
    · rintro x' H3 ⟨rfl, rfl⟩
      cases hf1 : allF (formF r) ks[i] with
      | true =>
        simp -implicitDefEqProofs only [go_sem, Nat.reduceEqDiff, Nat.reduceAdd, Nat.reduceLeDiff, ↓reduceIte, reduceCtorEq, Int.reduceBEq, Int.reduceBNe, Int.reduceLT, Int.reduceLE, Int.reduceGT, Int.reduceGE, Int.reduceNeg, Int.reduceAdd, Int.reduceSub, Nat.reduceMul, Nat.reduceLT, Int.reduceToNat, h7, w3]
        refine ⟨ks.length - (i + 1), by omega, i + 1, rfl, by omega, h1, h2, h5, h6, by simp, ⟨?_, fun b hb => ?_⟩, ?_⟩
        · simp -implicitDefEqProofs only [go_sem, Nat.reduceEqDiff, Nat.reduceAdd, Nat.reduceLeDiff, ↓reduceIte, reduceCtorEq, Int.reduceBEq, Int.reduceBNe, Int.reduceLT, Int.reduceLE, Int.reduceGT, Int.reduceGE, Int.reduceNeg, Int.reduceAdd, Int.reduceSub, Nat.reduceMul, Nat.reduceLT, Int.reduceToNat]; omega
        · have e1 : ¬ b = H2.next := by omega
          simp -implicitDefEqProofs only [go_sem, Nat.reduceEqDiff, Nat.reduceAdd, Nat.reduceLeDiff, ↓reduceIte, reduceCtorEq, Int.reduceBEq, Int.reduceBNe, Int.reduceLT, Int.reduceLE, Int.reduceGT, Int.reduceGE, Int.reduceNeg, Int.reduceAdd, Int.reduceSub, Nat.reduceMul, Nat.reduceLT, Int.reduceToNat, e1]
          exact hx2 b hb
        · rw [hr, hdrop]; simp only [allK, hf1, Bool.true_and]
      | false =>
        simp -implicitDefEqProofs only [go_sem, Nat.reduceEqDiff, Nat.reduceAdd, Nat.reduceLeDiff, ↓reduceIte, reduceCtorEq, Int.reduceBEq, Int.reduceBNe, Int.reduceLT, Int.reduceLE, Int.reduceGT, Int.reduceGE, Int.reduceNeg, Int.reduceAdd, Int.reduceSub, Nat.reduceMul, Nat.reduceLT, Int.reduceToNat]
        refine ⟨?_, ?_, fun b hb => ?_⟩
        · rw [hr, hdrop]; simp only [allK, hf1, Bool.false_and]
        · simp -implicitDefEqProofs only [go_sem, Nat.reduceEqDiff, Nat.reduceAdd, Nat.reduceLeDiff, ↓reduceIte, reduceCtorEq, Int.reduceBEq, Int.reduceBNe, Int.reduceLT, Int.reduceLE, Int.reduceGT, Int.reduceGE, Int.reduceNeg, Int.reduceAdd, Int.reduceSub, Nat.reduceMul, Nat.reduceLT, Int.reduceToNat]; omega
        · have e1 : ¬ b = H2.next := by omega
          simp -implicitDefEqProofs only [go_sem, Nat.reduceEqDiff, Nat.reduceAdd, Nat.reduceLeDiff, ↓reduceIte, reduceCtorEq, Int.reduceBEq, Int.reduceBNe, Int.reduceLT, Int.reduceLE, Int.reduceGT, Int.reduceGE, Int.reduceNeg, Int.reduceAdd, Int.reduceSub, Nat.reduceMul, Nat.reduceLT, Int.reduceToNat, e1]
          exact hx2 b hb
  · have hir : i = ks.length := by omega
    have hltI : ¬ (i : Int) < (ks.length : Int) := by omega
    simp -implicitDefEqProofs only [go_sem, Nat.reduceEqDiff, Nat.reduceAdd, Nat.reduceLeDiff, ↓reduceIte, reduceCtorEq, Int.reduceBEq, Int.reduceBNe, Int.reduceLT, Int.reduceLE, Int.reduceGT, Int.reduceGE, Int.reduceNeg, Int.reduceAdd, Int.reduceSub, Nat.reduceMul, Nat.reduceLT, Int.reduceToNat, h6, h7, hltI]
    refine ⟨?_, hx1, hx2⟩
    rw [hr, hir, List.drop_length]
    rfl

end Go.Proofs.Ytooaiddfokbffaa.E

/- What a term's check tells, and its size, as the code asks them. Conditions: none. -/
set_option linter.unusedVariables false
set_option linter.unusedSimpArgs false
namespace Go.Proofs.Ytooaiddfokbffaa.E
open Go Go.Proofs
attribute [local go_sem] s_seq s_ops s_draw s_block s_skip s_ret s_exit i_nil i_cons i_run i_runG s_condQ c_true c_false aop ev_t ev_c updO_at updO_no upd_at t_normal t_ret t_exit b_normal b_ret b_exit a_some ac_v ac_agg ac_ptr ac_slc ac_ro ac_rop ac_fn new_next set_next argTm_zero argTm_succ argTm_nil ab_bool ab_uv beq_self_eq_true Option.some_beq_some Bool.not_not beq_iff_eq decide_true decide_false Bool.not_true Bool.not_false afld aload astore apack alen_str alen_ro alen_slc alen_nil new_get set_get ite_true ite_false Option.map_some Option.bind_some ibin isShift Nat.add_zero Nat.zero_add List.length_cons List.length_nil List.drop_zero List.drop_succ_cons List.take_succ_cons List.take_zero if_true if_false setL List.set_cons_zero List.set_cons_succ List.all_cons List.all_nil one_int one_bool one_str one_nil one_ptr one_slc one_ro one_rop one_fn Bool.and_self Bool.and_true true_and and_true and_self Bool.false_eq_true post_ret post_normal resAll resOne packR Option.some.injEq exists_eq_left' List.map_cons List.map_nil List.nil_append List.append_nil List.cons_append d_nil d_cons k_nil k_cons g_op g_same g_new avBlock forall_eq' List.getElem?_cons_succ List.getElem?_cons_zero List.getElem?_nil okind gOk bne false_imp_iff forall_const imp_self implies_true true_imp_iff i_callG

def checkF (r : Lv → Bool) (t : Tm) : Int := if (fitT 0 1 t).1 = false then 2 else if allF (formF r) t = false then 10 else 0

set_option maxRecDepth 100000 in
theorem check_ok (r : Lv → Bool) (t : Tm) (hall : Tm.All (Fine r) t) (cells : List AV) (hT : TmR t cells) (H : AHeap) :
    SCall Try.prog 24 [.agg cells] H fun x H' => x = aint (checkF r t) ∧ H' = H := by
  refine SCall.val (SCall.intro mixed cf24 ?_)
  have hT' := hT
  obtain ⟨lx, kx, ls, cs, rfl, hl1, hl2, hk1, hk2⟩ := hT.six
  have e1 : ¬ H.next = H.next + 1 := by omega
  have e2 : ¬ H.next + 1 = H.next := by omega
  simp -implicitDefEqProofs only [c24, go_sem, Nat.reduceEqDiff, Nat.reduceAdd, Nat.reduceLeDiff, ↓reduceIte, reduceCtorEq, Int.reduceBEq, Int.reduceBNe, Int.reduceLT, Int.reduceLE, Int.reduceGT, Int.reduceGE, Int.reduceNeg, Int.reduceAdd, Int.reduceSub, Nat.reduceMul, Nat.reduceLT, Int.reduceToNat, hk1.one, hl1.one, hk1.cells, hl1.cells, afill, e1, e2]
  refine i_callA (fs := [.ptr (H.next + 1) 0]) (cs := []) (fid := 81) ?_ ?_ (fits_ok t _ hT' 0 1 (by omega) (by omega) _ (H.next + 1) ?_ ?_) ?_
  · rfl
  · simp -implicitDefEqProofs only [go_sem, Nat.reduceEqDiff, Nat.reduceAdd, Nat.reduceLeDiff, ↓reduceIte, reduceCtorEq, Int.reduceBEq, Int.reduceBNe, Int.reduceLT, Int.reduceLE, Int.reduceGT, Int.reduceGE, Int.reduceNeg, Int.reduceAdd, Int.reduceSub, Nat.reduceMul, Nat.reduceLT, Int.reduceToNat]
  · simp -implicitDefEqProofs only [go_sem, Nat.reduceEqDiff, Nat.reduceAdd, Nat.reduceLeDiff, ↓reduceIte, reduceCtorEq, Int.reduceBEq, Int.reduceBNe, Int.reduceLT, Int.reduceLE, Int.reduceGT, Int.reduceGE, Int.reduceNeg, Int.reduceAdd, Int.reduceSub, Nat.reduceMul, Nat.reduceLT, Int.reduceToNat]
  · simp -implicitDefEqProofs only [go_sem, Nat.reduceEqDiff, Nat.reduceAdd, Nat.reduceLeDiff, ↓reduceIte, reduceCtorEq, Int.reduceBEq, Int.reduceBNe, Int.reduceLT, Int.reduceLE, Int.reduceGT, Int.reduceGE, Int.reduceNeg, Int.reduceAdd, Int.reduceSub, Nat.reduceMul, Nat.reduceLT, Int.reduceToNat]; omega
  rintro x H3 ⟨rfl, rfl⟩
  have hE : ∀ o1 o2 o3, Ext H (((H.new o1).new o2).set (H.next + 1) o3) := fun o1 o2 o3 => ⟨by simp -implicitDefEqProofs only [go_sem, Nat.reduceEqDiff, Nat.reduceAdd, Nat.reduceLeDiff, ↓reduceIte, reduceCtorEq, Int.reduceBEq, Int.reduceBNe, Int.reduceLT, Int.reduceLE, Int.reduceGT, Int.reduceGE, Int.reduceNeg, Int.reduceAdd, Int.reduceSub, Nat.reduceMul, Nat.reduceLT, Int.reduceToNat]; omega, fun b hb => by
    have k1 : ¬ b = H.next := by omega
    have k2 : ¬ b = H.next + 1 := by omega
    simp -implicitDefEqProofs only [go_sem, Nat.reduceEqDiff, Nat.reduceAdd, Nat.reduceLeDiff, ↓reduceIte, reduceCtorEq, Int.reduceBEq, Int.reduceBNe, Int.reduceLT, Int.reduceLE, Int.reduceGT, Int.reduceGE, Int.reduceNeg, Int.reduceAdd, Int.reduceSub, Nat.reduceMul, Nat.reduceLT, Int.reduceToNat, k1, k2]⟩
  cases hf : (fitT 0 1 t).1 with
  | false =>
    simp -implicitDefEqProofs only [go_sem, Nat.reduceEqDiff, Nat.reduceAdd, Nat.reduceLeDiff, ↓reduceIte, reduceCtorEq, Int.reduceBEq, Int.reduceBNe, Int.reduceLT, Int.reduceLE, Int.reduceGT, Int.reduceGE, Int.reduceNeg, Int.reduceAdd, Int.reduceSub, Nat.reduceMul, Nat.reduceLT, Int.reduceToNat]
    exact ⟨by simp only [checkF, hf, if_true], hE _ _ _⟩
  | true =>
  simp -implicitDefEqProofs only [go_sem, Nat.reduceEqDiff, Nat.reduceAdd, Nat.reduceLeDiff, ↓reduceIte, reduceCtorEq, Int.reduceBEq, Int.reduceBNe, Int.reduceLT, Int.reduceLE, Int.reduceGT, Int.reduceGE, Int.reduceNeg, Int.reduceAdd, Int.reduceSub, Nat.reduceMul, Nat.reduceLT, Int.reduceToNat, e1, e2]
  refine i_callA (fs := []) (cs := []) (fid := 82) ?_ ?_ (all_ok r t hall _ hT' _) ?_
  · rfl
  · simp -implicitDefEqProofs only [go_sem, Nat.reduceEqDiff, Nat.reduceAdd, Nat.reduceLeDiff, ↓reduceIte, reduceCtorEq, Int.reduceBEq, Int.reduceBNe, Int.reduceLT, Int.reduceLE, Int.reduceGT, Int.reduceGE, Int.reduceNeg, Int.reduceAdd, Int.reduceSub, Nat.reduceMul, Nat.reduceLT, Int.reduceToNat]
  rintro x H3 ⟨rfl, rfl⟩
  cases hg : allF (formF r) t with
  | false =>
    simp -implicitDefEqProofs only [go_sem, Nat.reduceEqDiff, Nat.reduceAdd, Nat.reduceLeDiff, ↓reduceIte, reduceCtorEq, Int.reduceBEq, Int.reduceBNe, Int.reduceLT, Int.reduceLE, Int.reduceGT, Int.reduceGE, Int.reduceNeg, Int.reduceAdd, Int.reduceSub, Nat.reduceMul, Nat.reduceLT, Int.reduceToNat]
    exact ⟨by simp only [checkF, hf, hg, if_true, Bool.true_eq_false, if_false], hE _ _ _⟩
  | true =>
    simp -implicitDefEqProofs only [go_sem, Nat.reduceEqDiff, Nat.reduceAdd, Nat.reduceLeDiff, ↓reduceIte, reduceCtorEq, Int.reduceBEq, Int.reduceBNe, Int.reduceLT, Int.reduceLE, Int.reduceGT, Int.reduceGE, Int.reduceNeg, Int.reduceAdd, Int.reduceSub, Nat.reduceMul, Nat.reduceLT, Int.reduceToNat]
    exact ⟨by simp only [checkF, hf, hg, Bool.true_eq_false, if_false], hE _ _ _⟩

/-! ### Counting -/
mutual
def leftT (c : Int) : Tm → Bool × Int
  | .mk _ _ _ _ _ ks => if c - 1 < 0 then (false, c - 1) else leftK (c - 1) ks
def leftK (c : Int) : List Tm → Bool × Int
  | [] => (true, c)
  | k :: ks => if (leftT c k).1 = true then leftK (leftT c k).2 ks else (false, (leftT c k).2)
end

theorem left_bound : ∀ t, ∀ c, (leftT c t).1 = true → (leftT c t).2 < c ∧ 0 ≤ (leftT c t).2 := by
  refine Tm.rule fun f n hd s lv ks ih c h => ?_
  simp only [leftT] at h ⊢
  split at h
  · cases h
  · rename_i hno
    rw [if_neg hno]
    have hk : ∀ (ks' : List Tm), (∀ k ∈ ks', k ∈ ks) → ∀ c', 0 ≤ c' → (leftK c' ks').1 = true → (leftK c' ks').2 ≤ c' ∧ 0 ≤ (leftK c' ks').2 := by
      intro ks'
      induction ks' with
      | nil => intro _ c' hc' _; simp only [leftK]; omega
      | cons k ks' ih' =>
        intro hm c' hc' h
        simp only [leftK] at h ⊢
        split at h
        · rename_i h1
          rw [if_pos h1]
          obtain ⟨h2, h3⟩ := ih k (hm k (List.mem_cons_self ..)) c' h1
          obtain ⟨h4, h5⟩ := ih' (fun k hk => hm k (List.mem_cons_of_mem _ hk)) _ h3 h
          omega
        · cases h
    obtain ⟨h1, h2⟩ := hk ks (fun _ h => h) (c - 1) (by omega) h
    omega

set_option maxRecDepth 100000 in
theorem count_ok : ∀ t, ∀ (cells : List AV), TmR t cells → ∀ (c : Int), 0 ≤ c ∧ c ≤ 4611686018427387904 → ∀ (H : AHeap) (b : Nat), H.get b = some (.cells [aint c]) → b < H.next →
    SCall Try.prog 130 [.ptr b 0, .agg cells] H fun x H' => x = abl (leftT c t).1 ∧ H' = H.set b (.cells [aint (leftT c t).2]) := by
  refine Tm.rule fun f n hid s lv ks ih cells hT c hc H b hb hbn => ?_
  simp only [TmR] at hT
  obtain ⟨lx, kx, ls, cs, rfl, hlx, hls, hkx, hks⟩ := hT
  have hne : b ≠ H.next := Nat.ne_of_lt hbn
  have hne' : ¬ H.next = b := fun h => hne h.symm
  have w1 : IntKind.i64.wrap (c - 1) = c - 1 := i64_ok _ (by omega)
  have main : SCall Try.prog 130 [.ptr b 0, .agg [aint f, aint n, abl hid, .v (.string s), lx, kx]] H fun x H' => x = abl (leftT c (.mk f n hid s lv ks)).1 ∧ H.next ≤ H'.next ∧
      ∀ b', b' < H.next → H'.get b' = (H.set b (.cells [aint (leftT c (.mk f n hid s lv ks)).2])).get b' := by
    refine SCall.intro mixed cf130 ?_
    by_cases h1 : c - 1 < 0
    · simp -implicitDefEqProofs only [c130, go_sem, Nat.reduceEqDiff, Nat.reduceAdd, Nat.reduceLeDiff, ↓reduceIte, reduceCtorEq, Int.reduceBEq, Int.reduceBNe, Int.reduceLT, Int.reduceLE, Int.reduceGT, Int.reduceGE, Int.reduceNeg, Int.reduceAdd, Int.reduceSub, Nat.reduceMul, Nat.reduceLT, Int.reduceToNat, hb, hne, hne', w1, h1, leftT]
      refine ⟨Nat.le_succ _, fun b' hb' => ?_⟩
      simp only [Nat.ne_of_lt hb', if_false]
    have hlen := fun H => hkx.alen H
    have hone := hkx.one
    have hcl := hkx.cells
    simp -implicitDefEqProofs only [c130, go_sem, Nat.reduceEqDiff, Nat.reduceAdd, Nat.reduceLeDiff, ↓reduceIte, reduceCtorEq, Int.reduceBEq, Int.reduceBNe, Int.reduceLT, Int.reduceLE, Int.reduceGT, Int.reduceGE, Int.reduceNeg, Int.reduceAdd, Int.reduceSub, Nat.reduceMul, Nat.reduceLT, Int.reduceToNat, hb, hne, hne', w1, h1, leftT, hlen, hone, hcl]
    refine swp_loop (fun k st => ∃ (i : Nat) (ci : Int), k = ks.length - i ∧ i ≤ ks.length ∧ (i : Int) + ci ≤ c ∧ 0 ≤ ci ∧ st.tm 0 = .ptr b 0 ∧ st.tm 20 = kx ∧ st.tm 21 = aint ks.length ∧ st.tm 22 = aint i ∧
      H.next ≤ st.heap.next ∧ (∀ b', b' < H.next → st.heap.get b' = if b' = b then some (.cells [aint ci]) else H.get b') ∧ leftK (c - 1) ks = leftK ci (ks.drop i)) (k := ks.length) ⟨0, c - 1, ?_⟩ ?_
    · refine ⟨by omega, by omega, by omega, by omega, ?_, ?_, ?_, ?_, ?_, ?_, by simp⟩
      all_goals simp -implicitDefEqProofs only [go_sem, Nat.reduceEqDiff, Nat.reduceAdd, Nat.reduceLeDiff, ↓reduceIte, reduceCtorEq, Int.reduceBEq, Int.reduceBNe, Int.reduceLT, Int.reduceLE, Int.reduceGT, Int.reduceGE, Int.reduceNeg, Int.reduceAdd, Int.reduceSub, Nat.reduceMul, Nat.reduceLT, Int.reduceToNat]
      · rfl
      · exact Nat.le_succ _
      · intro b' hb'
        simp only [Nat.ne_of_lt hb', if_false]
    rintro k ⟨tm, H2⟩ ⟨i, ci, rfl, hi, hic, hci, h0, h26, h27, h28, hnx, hget, hfit⟩
    simp only at h0 h26 h27 h28 hnx hget
    have hb2 : H2.get b = some (.cells [aint ci]) := by rw [hget b hbn, if_pos rfl]
    by_cases hlt : i < ks.length
    · obtain ⟨kc, hkc, hle, hld⟩ := hks.load (List.getElem?_eq_getElem hlt)
      have hix := hkx.aix 6 hlt
      have hdrop : ks.drop i = ks[i] :: ks.drop (i + 1) := List.drop_eq_getElem_cons hlt
      obtain ⟨lx1, kx1, ls1, cs1, hkc6, hl1, hl2, hl3, hl4⟩ := hkc.six
      have hltI : (i : Int) < (ks.length : Int) := by omega
      have w3 : IntKind.i64.wrap ((i : Int) + 1) = (i : Int) + 1 := i64_ok _ (by omega)
      subst hkc6
      simp -implicitDefEqProofs only [go_sem, Nat.reduceEqDiff, Nat.reduceAdd, Nat.reduceLeDiff, ↓reduceIte, reduceCtorEq, Int.reduceBEq, Int.reduceBNe, Int.reduceLT, Int.reduceLE, Int.reduceGT, Int.reduceGE, Int.reduceNeg, Int.reduceAdd, Int.reduceSub, Nat.reduceMul, Nat.reduceLT, Int.reduceToNat, h0, h26, h27, h28, hltI, hix, hle, hld, hl1.one, hl3.one, hl1.cells, hl3.cells]
      have hbh : b < H2.next := by omega
      have hbe : ¬ b = H2.next := by omega
      refine i_callA (fs := []) (cs := []) ?_ ?_ (ih ks[i] (List.getElem_mem hlt) _ hkc ci (by omega) _ b ?_ ?_) ?_
      · rfl
      · simp -implicitDefEqProofs only [go_sem, Nat.reduceEqDiff, Nat.reduceAdd, Nat.reduceLeDiff, ↓reduceIte, reduceCtorEq, Int.reduceBEq, Int.reduceBNe, Int.reduceLT, Int.reduceLE, Int.reduceGT, Int.reduceGE, Int.reduceNeg, Int.reduceAdd, Int.reduceSub, Nat.reduceMul, Nat.reduceLT, Int.reduceToNat, h0]
      · simp only [set_get, new_get, hbe, if_false, hb2]
      · rw [set_next, new_next]; omega
      · rintro x H3 ⟨rfl, rfl⟩
        cases hf1 : (leftT ci ks[i]).1 with
        | true =>
          obtain ⟨hb3, hb4⟩ := left_bound _ _ hf1
          simp -implicitDefEqProofs only [go_sem, Nat.reduceEqDiff, Nat.reduceAdd, Nat.reduceLeDiff, ↓reduceIte, reduceCtorEq, Int.reduceBEq, Int.reduceBNe, Int.reduceLT, Int.reduceLE, Int.reduceGT, Int.reduceGE, Int.reduceNeg, Int.reduceAdd, Int.reduceSub, Nat.reduceMul, Nat.reduceLT, Int.reduceToNat, h28, w3]
          refine ⟨ks.length - (i + 1), by omega, i + 1, (leftT ci ks[i]).2, rfl, by omega, by omega, hb4, h0, h26, h27, by simp, by omega, fun b' hb' => ?_, ?_⟩
          · have e1 : ¬ b' = H2.next := by omega
            simp only [e1, if_false]
            by_cases e2 : b' = b
            · rw [if_pos e2, if_pos e2]
            · rw [if_neg e2, if_neg e2, hget b' hb', if_neg e2]
          · rw [hfit, hdrop]
            simp only [leftK, hf1, if_true]
        | false =>
          simp -implicitDefEqProofs only [go_sem, Nat.reduceEqDiff, Nat.reduceAdd, Nat.reduceLeDiff, ↓reduceIte, reduceCtorEq, Int.reduceBEq, Int.reduceBNe, Int.reduceLT, Int.reduceLE, Int.reduceGT, Int.reduceGE, Int.reduceNeg, Int.reduceAdd, Int.reduceSub, Nat.reduceMul, Nat.reduceLT, Int.reduceToNat]
          have hr : leftK (c - 1) ks = (false, (leftT ci ks[i]).2) := by
            rw [hfit, hdrop]
            simp only [leftK, hf1, Bool.false_eq_true, if_false]
          rw [hr]
          refine ⟨rfl, by omega, fun b' hb' => ?_⟩
          have e1 : ¬ b' = H2.next := by omega
          simp only [e1, if_false]
          by_cases e2 : b' = b
          · rw [if_pos e2, if_pos e2]
          · rw [if_neg e2, if_neg e2, hget b' hb', if_neg e2]
    · have hir : i = ks.length := by omega
      have hltI : ¬ (i : Int) < (ks.length : Int) := by omega
      have hr : leftK (c - 1) ks = (true, ci) := by
        rw [hfit, hir, List.drop_length]
        rfl
      simp -implicitDefEqProofs only [go_sem, Nat.reduceEqDiff, Nat.reduceAdd, Nat.reduceLeDiff, ↓reduceIte, reduceCtorEq, Int.reduceBEq, Int.reduceBNe, Int.reduceLT, Int.reduceLE, Int.reduceGT, Int.reduceGE, Int.reduceNeg, Int.reduceAdd, Int.reduceSub, Nat.reduceMul, Nat.reduceLT, Int.reduceToNat, h27, h28, hltI, hr]
      exact ⟨hnx, fun b' hb' => hget b' hb'⟩
  refine (main.cutTo (H.set b (.cells [aint (leftT c (.mk f n hid s lv ks)).2])) rfl ?_ ?_).mono ?_
  · intro hw b' o hg
    rw [set_get] at hg
    split at hg
    · rename_i hbb; rw [hbb]; exact hbn
    · exact hw b' o hg
  · rintro _ x H' ⟨rfl, h1, h2⟩
    refine ⟨h1, .v _, h2, fun b' hb' o hg => ?_⟩
    rw [set_get] at hg
    split at hg
    · injection hg with hg
      subst hg
      exact .inr (.cells _ fun x hx => by simp only [List.mem_cons, List.not_mem_nil, or_false] at hx; subst hx; exact .v _)
    · exact .inl hg
  · rintro x H' ⟨⟨_, rfl, _⟩, rfl⟩
    exact ⟨rfl, rfl⟩

/-- raw.Size at the greatest size. -/
def rawSizeF (t : Tm) : Int := 20001 - (if (leftT 20001 t).2 > 0 then (leftT 20001 t).2 else 0)

set_option maxRecDepth 100000 in
theorem rawSize_ok (t : Tm) (cells : List AV) (hT : TmR t cells) (hL : (leftT 20001 t).1 = true) (H : AHeap) :
    SCall Try.prog 86 [.agg cells, aint 20000] H fun x H' => x = aint (20001 - (leftT 20001 t).2) ∧ H' = H := by
  obtain ⟨hb1, hb2⟩ := left_bound _ _ hL
  refine SCall.val (SCall.intro mixed cf86 ?_)
  have hT' := hT
  obtain ⟨lx, kx, ls, cs, rfl, hl1, hl2, hk1, hk2⟩ := hT.six
  have e1 : ¬ H.next = H.next + 1 := by omega
  have e2 : ¬ H.next + 1 = H.next := by omega
  have w1 : IntKind.i64.wrap 20001 = 20001 := i64_ok _ (by omega)
  have w2 : IntKind.i64.wrap (20001 - (leftT 20001 t).2) = 20001 - (leftT 20001 t).2 := i64_ok _ (by omega)
  have w3 : (if (leftT 20001 t).2 > 0 then (leftT 20001 t).2 else 0) = (leftT 20001 t).2 := by split <;> omega
  simp -implicitDefEqProofs only [c86, go_sem, Nat.reduceEqDiff, Nat.reduceAdd, Nat.reduceLeDiff, ↓reduceIte, reduceCtorEq, Int.reduceBEq, Int.reduceBNe, Int.reduceLT, Int.reduceLE, Int.reduceGT, Int.reduceGE, Int.reduceNeg, Int.reduceAdd, Int.reduceSub, Nat.reduceMul, Nat.reduceLT, Int.reduceToNat, hk1.one, hl1.one, hk1.cells, hl1.cells, afill, e1, e2, w1]
  refine i_callA (fs := []) (cs := []) (fid := 130) ?_ ?_ (count_ok t _ hT' 20001 (by omega) _ (H.next + 1) ?_ ?_) ?_
  · rfl
  · simp -implicitDefEqProofs only [go_sem, Nat.reduceEqDiff, Nat.reduceAdd, Nat.reduceLeDiff, ↓reduceIte, reduceCtorEq, Int.reduceBEq, Int.reduceBNe, Int.reduceLT, Int.reduceLE, Int.reduceGT, Int.reduceGE, Int.reduceNeg, Int.reduceAdd, Int.reduceSub, Nat.reduceMul, Nat.reduceLT, Int.reduceToNat]
  · simp -implicitDefEqProofs only [go_sem, Nat.reduceEqDiff, Nat.reduceAdd, Nat.reduceLeDiff, ↓reduceIte, reduceCtorEq, Int.reduceBEq, Int.reduceBNe, Int.reduceLT, Int.reduceLE, Int.reduceGT, Int.reduceGE, Int.reduceNeg, Int.reduceAdd, Int.reduceSub, Nat.reduceMul, Nat.reduceLT, Int.reduceToNat]
  · simp -implicitDefEqProofs only [go_sem, Nat.reduceEqDiff, Nat.reduceAdd, Nat.reduceLeDiff, ↓reduceIte, reduceCtorEq, Int.reduceBEq, Int.reduceBNe, Int.reduceLT, Int.reduceLE, Int.reduceGT, Int.reduceGE, Int.reduceNeg, Int.reduceAdd, Int.reduceSub, Nat.reduceMul, Nat.reduceLT, Int.reduceToNat]; omega
  rintro x H3 ⟨rfl, rfl⟩
  simp -implicitDefEqProofs only [go_sem, Nat.reduceEqDiff, Nat.reduceAdd, Nat.reduceLeDiff, ↓reduceIte, reduceCtorEq, Int.reduceBEq, Int.reduceBNe, Int.reduceLT, Int.reduceLE, Int.reduceGT, Int.reduceGE, Int.reduceNeg, Int.reduceAdd, Int.reduceSub, Nat.reduceMul, Nat.reduceLT, Int.reduceToNat, amm, w1, w3, w2]
  refine ⟨by simp -implicitDefEqProofs only [go_sem, Nat.reduceEqDiff, Nat.reduceAdd, Nat.reduceLeDiff, ↓reduceIte, reduceCtorEq, Int.reduceBEq, Int.reduceBNe, Int.reduceLT, Int.reduceLE, Int.reduceGT, Int.reduceGE, Int.reduceNeg, Int.reduceAdd, Int.reduceSub, Nat.reduceMul, Nat.reduceLT, Int.reduceToNat]; omega, fun b hb => ?_⟩
  have k1 : ¬ b = H.next := by omega
  have k2 : ¬ b = H.next + 1 := by omega
  simp -implicitDefEqProofs only [go_sem, Nat.reduceEqDiff, Nat.reduceAdd, Nat.reduceLeDiff, ↓reduceIte, reduceCtorEq, Int.reduceBEq, Int.reduceBNe, Int.reduceLT, Int.reduceLE, Int.reduceGT, Int.reduceGE, Int.reduceNeg, Int.reduceAdd, Int.reduceSub, Nat.reduceMul, Nat.reduceLT, Int.reduceToNat, k1, k2]

end Go.Proofs.Ytooaiddfokbffaa.E

/- The size of a term, as the code and the reference tell it. Conditions: none. -/
set_option linter.unusedVariables false
set_option linter.unusedSimpArgs false
namespace Go.Proofs.Ytooaiddfokbffaa.E
open Go Go.Proofs
attribute [local go_sem] s_seq s_ops s_draw s_block s_skip s_ret s_exit i_nil i_cons i_run i_runG s_condQ c_true c_false aop ev_t ev_c updO_at updO_no upd_at t_normal t_ret t_exit b_normal b_ret b_exit a_some ac_v ac_agg ac_ptr ac_slc ac_ro ac_rop ac_fn new_next set_next argTm_zero argTm_succ argTm_nil ab_bool ab_uv beq_self_eq_true Option.some_beq_some Bool.not_not beq_iff_eq decide_true decide_false Bool.not_true Bool.not_false afld aload astore apack alen_str alen_ro alen_slc alen_nil new_get set_get ite_true ite_false Option.map_some Option.bind_some ibin isShift Nat.add_zero Nat.zero_add List.length_cons List.length_nil List.drop_zero List.drop_succ_cons List.take_succ_cons List.take_zero if_true if_false setL List.set_cons_zero List.set_cons_succ List.all_cons List.all_nil one_int one_bool one_str one_nil one_ptr one_slc one_ro one_rop one_fn Bool.and_self Bool.and_true true_and and_true and_self Bool.false_eq_true post_ret post_normal resAll resOne packR Option.some.injEq exists_eq_left' List.map_cons List.map_nil List.nil_append List.append_nil List.cons_append d_nil d_cons k_nil k_cons g_op g_same g_new avBlock forall_eq' List.getElem?_cons_succ List.getElem?_cons_zero List.getElem?_nil okind gOk bne false_imp_iff forall_const imp_self implies_true true_imp_iff i_callG

/-- What fits is counted. -/
theorem fit_left : ∀ t, ∀ c high, (fitT c high t).1 = true → ∀ L, 20001 - c ≤ L → leftT L t = (true, L - ((fitT c high t).2 - c)) := by
  refine Tm.rule fun f n hd s lv ks ih c high h L hL => ?_
  simp only [fitT] at h ⊢
  simp only [leftT]
  split at h
  · cases h
  · rename_i hno
    rw [if_neg hno, if_neg (by omega)]
    have hk : ∀ (ks' : List Tm), (∀ k ∈ ks', k ∈ ks) → ∀ c' L', c' ≤ 20000 → 20001 - c' ≤ L' → (fitK c' (high + 1) ks').1 = true → leftK L' ks' = (true, L' - ((fitK c' (high + 1) ks').2 - c')) := by
      intro ks'
      induction ks' with
      | nil => intro _ c' L' _ _ _; simp only [leftK, fitK]; simp
      | cons k ks' ih' =>
        intro hm c' L' hc' hL' h
        simp only [fitK] at h ⊢
        simp only [leftK]
        split at h
        · rename_i h1
          obtain ⟨h2, h3⟩ := fit_bound _ _ _ h1
          have h4 := ih k (hm k (List.mem_cons_self ..)) c' (high + 1) h1 L' hL'
          rw [if_pos h1, h4]
          simp only [if_true]
          rw [ih' (fun k hk => hm k (List.mem_cons_of_mem _ hk)) _ _ h3 (by omega) h]
          congr 1
          omega
        · cases h
    rw [hk ks (fun _ h => h) (c + 1) (L - 1) (by omega) (by omega) h]
    congr 1
    omega

def sizeF (r : Lv → Bool) (t : Tm) : Int := if checkF r t = 0 then (fitT 0 1 t).2 else 0

theorem check_fit {r : Lv → Bool} {t : Tm} (h : checkF r t = 0) : (fitT 0 1 t).1 = true := by
  unfold checkF at h
  cases hf : (fitT 0 1 t).1 with
  | true => rfl
  | false => rw [hf] at h; simp at h

set_option maxRecDepth 100000 in
theorem size_ok (r : Lv → Bool) (t : Tm) (hall : Tm.All (Fine r) t) (cells : List AV) (hT : TmR t cells) (H : AHeap) :
    SCall Try.prog 27 [.agg cells] H fun x H' => x = aint (sizeF r t) ∧ H' = H := by
  refine SCall.val (SCall.intro mixed cf27 ?_)
  have hT' := hT
  obtain ⟨lx, kx, ls, cs, rfl, hl1, hl2, hk1, hk2⟩ := hT.six
  simp -implicitDefEqProofs only [c27, go_sem, Nat.reduceEqDiff, Nat.reduceAdd, Nat.reduceLeDiff, ↓reduceIte, reduceCtorEq, Int.reduceBEq, Int.reduceBNe, Int.reduceLT, Int.reduceLE, Int.reduceGT, Int.reduceGE, Int.reduceNeg, Int.reduceAdd, Int.reduceSub, Nat.reduceMul, Nat.reduceLT, Int.reduceToNat, hk1.one, hl1.one, hk1.cells, hl1.cells]
  refine i_callA (fs := []) (cs := []) (fid := 24) ?_ ?_ (check_ok r t hall _ hT' _) ?_
  · rfl
  · simp -implicitDefEqProofs only [go_sem, Nat.reduceEqDiff, Nat.reduceAdd, Nat.reduceLeDiff, ↓reduceIte, reduceCtorEq, Int.reduceBEq, Int.reduceBNe, Int.reduceLT, Int.reduceLE, Int.reduceGT, Int.reduceGE, Int.reduceNeg, Int.reduceAdd, Int.reduceSub, Nat.reduceMul, Nat.reduceLT, Int.reduceToNat]
  rintro x H3 ⟨rfl, rfl⟩
  by_cases hz : checkF r t = 0
  · have hfit := check_fit hz
    have hleft := fit_left t 0 1 hfit 20001 (by omega)
    have hl : (leftT 20001 t).1 = true := by rw [hleft]
    have hs : 20001 - (leftT 20001 t).2 = (fitT 0 1 t).2 := by rw [hleft]; simp only; omega
    rw [hz]
    simp -implicitDefEqProofs only [go_sem, Nat.reduceEqDiff, Nat.reduceAdd, Nat.reduceLeDiff, ↓reduceIte, reduceCtorEq, Int.reduceBEq, Int.reduceBNe, Int.reduceLT, Int.reduceLE, Int.reduceGT, Int.reduceGE, Int.reduceNeg, Int.reduceAdd, Int.reduceSub, Nat.reduceMul, Nat.reduceLT, Int.reduceToNat]
    refine i_callA (fs := []) (cs := []) (fid := 86) ?_ ?_ (rawSize_ok t _ hT' hl _) ?_
    · rfl
    · simp -implicitDefEqProofs only [go_sem, Nat.reduceEqDiff, Nat.reduceAdd, Nat.reduceLeDiff, ↓reduceIte, reduceCtorEq, Int.reduceBEq, Int.reduceBNe, Int.reduceLT, Int.reduceLE, Int.reduceGT, Int.reduceGE, Int.reduceNeg, Int.reduceAdd, Int.reduceSub, Nat.reduceMul, Nat.reduceLT, Int.reduceToNat]
    rintro x H3 ⟨rfl, rfl⟩
    simp -implicitDefEqProofs only [go_sem, Nat.reduceEqDiff, Nat.reduceAdd, Nat.reduceLeDiff, ↓reduceIte, reduceCtorEq, Int.reduceBEq, Int.reduceBNe, Int.reduceLT, Int.reduceLE, Int.reduceGT, Int.reduceGE, Int.reduceNeg, Int.reduceAdd, Int.reduceSub, Nat.reduceMul, Nat.reduceLT, Int.reduceToNat, hs]
    exact ⟨by simp only [sizeF, hz, if_true], ext_new H _⟩
  · simp -implicitDefEqProofs only [go_sem, Nat.reduceEqDiff, Nat.reduceAdd, Nat.reduceLeDiff, ↓reduceIte, reduceCtorEq, Int.reduceBEq, Int.reduceBNe, Int.reduceLT, Int.reduceLE, Int.reduceGT, Int.reduceGE, Int.reduceNeg, Int.reduceAdd, Int.reduceSub, Nat.reduceMul, Nat.reduceLT, Int.reduceToNat, bne_of hz]
    exact ⟨by simp only [sizeF, hz, if_false], ext_new H _⟩

/-! ### The reference's count -/
mutual
def partT (left high : Int) : Tm → Int × Int
  | .mk _ _ _ _ _ ks => if left < 1 ∨ high < 1 then (1073741824, 1073741824) else partK left high 1 0 ks
def partK (left high n h : Int) : List Tm → Int × Int
  | [] => (n, h + 1)
  | k :: ks =>
    if n + (partT (left - n) (high - 1) k).1 > left ∨ (if (partT (left - n) (high - 1) k).2 > h then (partT (left - n) (high - 1) k).2 else h) ≥ high then (1073741824, 1073741824)
    else partK left high (n + (partT (left - n) (high - 1) k).1) (if (partT (left - n) (high - 1) k).2 > h then (partT (left - n) (high - 1) k).2 else h) ks
end

theorem part_bound : ∀ t, ∀ left high, left ≤ 1073741824 → high ≤ 1073741824 → 1 ≤ (partT left high t).1 ∧ (partT left high t).1 ≤ 1073741824 ∧ 1 ≤ (partT left high t).2 ∧ (partT left high t).2 ≤ 1073741824 := by
  refine Tm.rule fun f n hd s lv ks ih left high hl hh => ?_
  simp only [partT]
  split
  · simp
  · rename_i hno
    have hk : ∀ (ks' : List Tm), (∀ k ∈ ks', k ∈ ks) → ∀ n h, 1 ≤ n → n ≤ left → 0 ≤ h → h < high → 1 ≤ (partK left high n h ks').1 ∧ (partK left high n h ks').1 ≤ 1073741824 ∧ 1 ≤ (partK left high n h ks').2 ∧ (partK left high n h ks').2 ≤ 1073741824 := by
      intro ks'
      induction ks' with
      | nil => intro _ n h h1 h2 h3 h4; simp only [partK]; omega
      | cons k ks' ih' =>
        intro hm n h h1 h2 h3 h4
        simp only [partK]
        obtain ⟨k1, k2, k3, k4⟩ := ih k (hm k (List.mem_cons_self ..)) (left - n) (high - 1) (by omega) (by omega)
        generalize partT (left - n) (high - 1) k = p at *
        by_cases hc : n + p.1 > left ∨ (if p.2 > h then p.2 else h) ≥ high
        · rw [if_pos hc]; simp
        · rw [if_neg hc]
          refine ih' (fun k hk => hm k (List.mem_cons_of_mem _ hk)) _ _ (by omega) (by omega) ?_ (by omega)
          by_cases hc2 : p.2 > h
          · rw [if_pos hc2]; omega
          · rw [if_neg hc2]; omega
    exact hk ks (fun _ h => h) 1 0 (by omega) (by omega) (by omega) (by omega)

set_option maxRecDepth 100000 in
theorem part_ok : ∀ t, ∀ (cells : List AV), TmR t cells → ∀ (left high : Int), -1073741824 ≤ left ∧ left ≤ 1073741824 → -1073741824 ≤ high ∧ high ≤ 1073741824 → ∀ (H : AHeap),
    SCall Try.prog 85 [.agg cells, aint left, aint high] H fun x H' => x = .tup [aint (partT left high t).1, aint (partT left high t).2] ∧ H' = H := by
  refine Tm.rule fun f n hid s lv ks ih cells hT left high hl hh H => ?_
  simp only [TmR] at hT
  obtain ⟨lx, kx, ls, cs, rfl, hlx, hls, hkx, hks⟩ := hT
  refine SCall.valO (.tup _ fun x hx => by simp only [List.mem_cons, List.not_mem_nil, or_false] at hx; rcases hx with rfl | rfl <;> exact .v _) (SCall.intro mixed cf85 ?_)
  by_cases h1 : left < 1
  · simp -implicitDefEqProofs only [c85, go_sem, Nat.reduceEqDiff, Nat.reduceAdd, Nat.reduceLeDiff, ↓reduceIte, reduceCtorEq, Int.reduceBEq, Int.reduceBNe, Int.reduceLT, Int.reduceLE, Int.reduceGT, Int.reduceGE, Int.reduceNeg, Int.reduceAdd, Int.reduceSub, Nat.reduceMul, Nat.reduceLT, Int.reduceToNat, h1, partT, true_or]
    exact ext_new H _
  by_cases h2 : high < 1
  · simp -implicitDefEqProofs only [c85, go_sem, Nat.reduceEqDiff, Nat.reduceAdd, Nat.reduceLeDiff, ↓reduceIte, reduceCtorEq, Int.reduceBEq, Int.reduceBNe, Int.reduceLT, Int.reduceLE, Int.reduceGT, Int.reduceGE, Int.reduceNeg, Int.reduceAdd, Int.reduceSub, Nat.reduceMul, Nat.reduceLT, Int.reduceToNat, h1, h2, partT, or_true]
    exact ext_new H _
  have hlen := fun H => hkx.alen H
  have hone := hkx.one
  have hcl := hkx.cells
  simp -implicitDefEqProofs only [c85, go_sem, Nat.reduceEqDiff, Nat.reduceAdd, Nat.reduceLeDiff, ↓reduceIte, reduceCtorEq, Int.reduceBEq, Int.reduceBNe, Int.reduceLT, Int.reduceLE, Int.reduceGT, Int.reduceGE, Int.reduceNeg, Int.reduceAdd, Int.reduceSub, Nat.reduceMul, Nat.reduceLT, Int.reduceToNat, h1, h2, partT, or_self]
  refine swp_loop (fun k st => ∃ (i : Nat) (n' h' : Int), k = ks.length - i ∧ i ≤ ks.length ∧ (i : Int) + 1 ≤ n' ∧ n' ≤ left ∧ 0 ≤ h' ∧ h' < high ∧ st.tm 1 = aint left ∧ st.tm 2 = aint high ∧ st.tm 3 = .ptr H.next 0 ∧ st.tm 8 = aint n' ∧ st.tm 9 = aint h' ∧ st.tm 10 = aint i ∧
    Ext (H.new (.cells [aint f, aint n, abl hid, .v (.string s), lx, kx])) st.heap ∧ partK left high 1 0 ks = partK left high n' h' (ks.drop i)) (k := ks.length) ⟨0, 1, 0, ?_⟩ ?_
  · exact ⟨by omega, by omega, by omega, by omega, by omega, by omega, rfl, rfl, rfl, rfl, rfl, rfl, ⟨Nat.le_refl _, fun _ _ => rfl⟩, by simp⟩
  rintro k ⟨tm, H2⟩ ⟨i, n', h', rfl, hi, hin, hnl, hh0, hhh, t1, t2, t3, t8, t9, t10, ⟨hx1, hx2⟩, hfit⟩
  simp only at t1 t2 t3 t8 t9 t10 hx1 hx2
  rw [new_next] at hx1
  have hb : H2.get H.next = some (.cells [aint f, aint n, abl hid, .v (.string s), lx, kx]) := by
    rw [hx2 H.next (by rw [new_next]; omega), new_get, if_pos rfl]
  have hE : Ext H H2 := ⟨by omega, fun b hb' => by rw [hx2 b (by rw [new_next]; omega), new_get, if_neg (by omega)]⟩
  by_cases hlt : i < ks.length
  · obtain ⟨kc, hkc, hle, hld⟩ := hks.load (List.getElem?_eq_getElem hlt)
    have hix := hkx.aix 6 hlt
    have hdrop : ks.drop i = ks[i] :: ks.drop (i + 1) := List.drop_eq_getElem_cons hlt
    have hltI : (i : Int) < (ks.length : Int) := by omega
    have w1 : IntKind.i64.wrap (left - n') = left - n' := i64_ok _ (by omega)
    have w2 : IntKind.i64.wrap (high - 1) = high - 1 := i64_ok _ (by omega)
    have w3 : IntKind.i64.wrap ((i : Int) + 1) = (i : Int) + 1 := i64_ok _ (by omega)
    simp -implicitDefEqProofs only [go_sem, Nat.reduceEqDiff, Nat.reduceAdd, Nat.reduceLeDiff, ↓reduceIte, reduceCtorEq, Int.reduceBEq, Int.reduceBNe, Int.reduceLT, Int.reduceLE, Int.reduceGT, Int.reduceGE, Int.reduceNeg, Int.reduceAdd, Int.reduceSub, Nat.reduceMul, Nat.reduceLT, Int.reduceToNat, t1, t2, t3, t8, t9, t10, hb, hlen, hltI, hix, hle, hld, w1, w2]
    refine i_callA (fs := []) (cs := []) (fid := 85) ?_ ?_ (ih ks[i] (List.getElem_mem hlt) _ hkc (left - n') (high - 1) (by omega) (by omega) _) ?_
    · rfl
    · simp -implicitDefEqProofs only [go_sem, Nat.reduceEqDiff, Nat.reduceAdd, Nat.reduceLeDiff, ↓reduceIte, reduceCtorEq, Int.reduceBEq, Int.reduceBNe, Int.reduceLT, Int.reduceLE, Int.reduceGT, Int.reduceGE, Int.reduceNeg, Int.reduceAdd, Int.reduceSub, Nat.reduceMul, Nat.reduceLT, Int.reduceToNat]
    rintro x H3 ⟨rfl, rfl⟩
    obtain ⟨b1, b2, b3, b4⟩ := part_bound ks[i] (left - n') (high - 1) (by omega) (by omega)
    generalize hp : partT (left - n') (high - 1) ks[i] = p at *
    obtain ⟨pa, pb⟩ := p
    simp only at b1 b2 b3 b4
    have w4 : IntKind.i64.wrap (n' + pa) = n' + pa := i64_ok _ (by omega)
    have hstep : partK left high n' h' (ks.drop i) = if n' + pa > left ∨ (if pb > h' then pb else h') ≥ high then (1073741824, 1073741824) else partK left high (n' + pa) (if pb > h' then pb else h') (ks.drop (i + 1)) := by
      rw [hdrop]
      simp only [partK, hp]
    rw [hfit, hstep]
    by_cases g1 : pb > h'
    · by_cases g2 : n' + pa > left
      · simp -implicitDefEqProofs only [go_sem, Nat.reduceEqDiff, Nat.reduceAdd, Nat.reduceLeDiff, ↓reduceIte, reduceCtorEq, Int.reduceBEq, Int.reduceBNe, Int.reduceLT, Int.reduceLE, Int.reduceGT, Int.reduceGE, Int.reduceNeg, Int.reduceAdd, Int.reduceSub, Nat.reduceMul, Nat.reduceLT, Int.reduceToNat, t1, t2, t8, t9, t10, w4, g1, g2]
        exact ⟨by simp, hE⟩
      · by_cases g3 : pb ≥ high
        · simp -implicitDefEqProofs only [go_sem, Nat.reduceEqDiff, Nat.reduceAdd, Nat.reduceLeDiff, ↓reduceIte, reduceCtorEq, Int.reduceBEq, Int.reduceBNe, Int.reduceLT, Int.reduceLE, Int.reduceGT, Int.reduceGE, Int.reduceNeg, Int.reduceAdd, Int.reduceSub, Nat.reduceMul, Nat.reduceLT, Int.reduceToNat, t1, t2, t8, t9, t10, w4, g1, g2, g3]
          exact ⟨by simp, hE⟩
        · simp -implicitDefEqProofs only [go_sem, Nat.reduceEqDiff, Nat.reduceAdd, Nat.reduceLeDiff, ↓reduceIte, reduceCtorEq, Int.reduceBEq, Int.reduceBNe, Int.reduceLT, Int.reduceLE, Int.reduceGT, Int.reduceGE, Int.reduceNeg, Int.reduceAdd, Int.reduceSub, Nat.reduceMul, Nat.reduceLT, Int.reduceToNat, t1, t2, t8, t9, t10, w4, g1, g2, g3, w3]
          refine ⟨ks.length - (i + 1), by omega, i + 1, n' + pa, pb, rfl, ?_⟩
          and_intros
          all_goals first | omega | assumption | rfl | exact ⟨by rw [new_next]; omega, hx2⟩ | simp [g1, g2, g3]
    · by_cases g2 : n' + pa > left
      · simp -implicitDefEqProofs only [go_sem, Nat.reduceEqDiff, Nat.reduceAdd, Nat.reduceLeDiff, ↓reduceIte, reduceCtorEq, Int.reduceBEq, Int.reduceBNe, Int.reduceLT, Int.reduceLE, Int.reduceGT, Int.reduceGE, Int.reduceNeg, Int.reduceAdd, Int.reduceSub, Nat.reduceMul, Nat.reduceLT, Int.reduceToNat, t1, t2, t8, t9, t10, w4, g1, g2]
        exact ⟨by simp, hE⟩
      · have g3 : ¬ h' ≥ high := by omega
        simp -implicitDefEqProofs only [go_sem, Nat.reduceEqDiff, Nat.reduceAdd, Nat.reduceLeDiff, ↓reduceIte, reduceCtorEq, Int.reduceBEq, Int.reduceBNe, Int.reduceLT, Int.reduceLE, Int.reduceGT, Int.reduceGE, Int.reduceNeg, Int.reduceAdd, Int.reduceSub, Nat.reduceMul, Nat.reduceLT, Int.reduceToNat, t1, t2, t8, t9, t10, w4, g1, g2, g3, w3]
        refine ⟨ks.length - (i + 1), by omega, i + 1, n' + pa, h', rfl, ?_⟩
        and_intros
        all_goals first | omega | assumption | rfl | exact ⟨by rw [new_next]; omega, hx2⟩ | simp [g1, g2, g3]
  · have hir : i = ks.length := by omega
    have hltI : ¬ (i : Int) < (ks.length : Int) := by omega
    have w5 : IntKind.i64.wrap (h' + 1) = h' + 1 := i64_ok _ (by omega)
    have hr : partK left high 1 0 ks = (n', h' + 1) := by
      rw [hfit, hir, List.drop_length]
      simp only [partK]
    simp -implicitDefEqProofs only [go_sem, Nat.reduceEqDiff, Nat.reduceAdd, Nat.reduceLeDiff, ↓reduceIte, reduceCtorEq, Int.reduceBEq, Int.reduceBNe, Int.reduceLT, Int.reduceLE, Int.reduceGT, Int.reduceGE, Int.reduceNeg, Int.reduceAdd, Int.reduceSub, Nat.reduceMul, Nat.reduceLT, Int.reduceToNat, t3, t8, t9, t10, hb, hlen, hltI, hr, w5]
    exact hE

end Go.Proofs.Ytooaiddfokbffaa.E

/- Whether a term has its forms, as the reference asks it; its check and its size. Conditions: none. -/
set_option linter.unusedVariables false
set_option linter.unusedSimpArgs false
namespace Go.Proofs.Ytooaiddfokbffaa.E
open Go Go.Proofs
attribute [local go_sem] s_seq s_ops s_draw s_block s_skip s_ret s_exit i_nil i_cons i_run i_runG s_condQ c_true c_false aop ev_t ev_c updO_at updO_no upd_at t_normal t_ret t_exit b_normal b_ret b_exit a_some ac_v ac_agg ac_ptr ac_slc ac_ro ac_rop ac_fn new_next set_next argTm_zero argTm_succ argTm_nil ab_bool ab_uv beq_self_eq_true Option.some_beq_some Bool.not_not beq_iff_eq decide_true decide_false Bool.not_true Bool.not_false afld aload astore apack alen_str alen_ro alen_slc alen_nil new_get set_get ite_true ite_false Option.map_some Option.bind_some ibin isShift Nat.add_zero Nat.zero_add List.length_cons List.length_nil List.drop_zero List.drop_succ_cons List.take_succ_cons List.take_zero if_true if_false setL List.set_cons_zero List.set_cons_succ List.all_cons List.all_nil one_int one_bool one_str one_nil one_ptr one_slc one_ro one_rop one_fn Bool.and_self Bool.and_true true_and and_true and_self Bool.false_eq_true post_ret post_normal resAll resOne packR Option.some.injEq exists_eq_left' List.map_cons List.map_nil List.nil_append List.append_nil List.cons_append d_nil d_cons k_nil k_cons g_op g_same g_new avBlock forall_eq' List.getElem?_cons_succ List.getElem?_cons_zero List.getElem?_nil okind gOk bne false_imp_iff forall_const imp_self implies_true true_imp_iff i_callG

set_option maxRecDepth 100000 in
theorem kids2_ok (f : Int) (H : AHeap) : SCall Try.prog 131 [aint f] H fun x H' => x = aint (kidsF f) ∧ H' = H := by
  refine SCall.intro mixed cf131 ?_
  by_cases e1 : f = 1
  · subst e1; simp -implicitDefEqProofs only [c131, go_sem, Nat.reduceEqDiff, Nat.reduceAdd, Nat.reduceLeDiff, ↓reduceIte, reduceCtorEq, Int.reduceBEq, Int.reduceBNe, Int.reduceLT, Int.reduceLE, Int.reduceGT, Int.reduceGE, Int.reduceNeg, Int.reduceAdd, Int.reduceSub, Nat.reduceMul, Nat.reduceLT, Int.reduceToNat]; rfl
  by_cases e2 : f = 2
  · subst e2; simp -implicitDefEqProofs only [c131, go_sem, Nat.reduceEqDiff, Nat.reduceAdd, Nat.reduceLeDiff, ↓reduceIte, reduceCtorEq, Int.reduceBEq, Int.reduceBNe, Int.reduceLT, Int.reduceLE, Int.reduceGT, Int.reduceGE, Int.reduceNeg, Int.reduceAdd, Int.reduceSub, Nat.reduceMul, Nat.reduceLT, Int.reduceToNat]; rfl
  by_cases e3 : f = 10
  · subst e3; simp -implicitDefEqProofs only [c131, go_sem, Nat.reduceEqDiff, Nat.reduceAdd, Nat.reduceLeDiff, ↓reduceIte, reduceCtorEq, Int.reduceBEq, Int.reduceBNe, Int.reduceLT, Int.reduceLE, Int.reduceGT, Int.reduceGE, Int.reduceNeg, Int.reduceAdd, Int.reduceSub, Nat.reduceMul, Nat.reduceLT, Int.reduceToNat]; rfl
  by_cases e4 : f = 11
  · subst e4; simp -implicitDefEqProofs only [c131, go_sem, Nat.reduceEqDiff, Nat.reduceAdd, Nat.reduceLeDiff, ↓reduceIte, reduceCtorEq, Int.reduceBEq, Int.reduceBNe, Int.reduceLT, Int.reduceLE, Int.reduceGT, Int.reduceGE, Int.reduceNeg, Int.reduceAdd, Int.reduceSub, Nat.reduceMul, Nat.reduceLT, Int.reduceToNat]; rfl
  by_cases e5 : f = 8
  · subst e5; simp -implicitDefEqProofs only [c131, go_sem, Nat.reduceEqDiff, Nat.reduceAdd, Nat.reduceLeDiff, ↓reduceIte, reduceCtorEq, Int.reduceBEq, Int.reduceBNe, Int.reduceLT, Int.reduceLE, Int.reduceGT, Int.reduceGE, Int.reduceNeg, Int.reduceAdd, Int.reduceSub, Nat.reduceMul, Nat.reduceLT, Int.reduceToNat]; rfl
  by_cases e6 : f = 9
  · subst e6; simp -implicitDefEqProofs only [c131, go_sem, Nat.reduceEqDiff, Nat.reduceAdd, Nat.reduceLeDiff, ↓reduceIte, reduceCtorEq, Int.reduceBEq, Int.reduceBNe, Int.reduceLT, Int.reduceLE, Int.reduceGT, Int.reduceGE, Int.reduceNeg, Int.reduceAdd, Int.reduceSub, Nat.reduceMul, Nat.reduceLT, Int.reduceToNat]; rfl
  by_cases e7 : f = 7
  · subst e7; simp -implicitDefEqProofs only [c131, go_sem, Nat.reduceEqDiff, Nat.reduceAdd, Nat.reduceLeDiff, ↓reduceIte, reduceCtorEq, Int.reduceBEq, Int.reduceBNe, Int.reduceLT, Int.reduceLE, Int.reduceGT, Int.reduceGE, Int.reduceNeg, Int.reduceAdd, Int.reduceSub, Nat.reduceMul, Nat.reduceLT, Int.reduceToNat]; rfl
  by_cases e8 : f = 3
  · subst e8; simp -implicitDefEqProofs only [c131, go_sem, Nat.reduceEqDiff, Nat.reduceAdd, Nat.reduceLeDiff, ↓reduceIte, reduceCtorEq, Int.reduceBEq, Int.reduceBNe, Int.reduceLT, Int.reduceLE, Int.reduceGT, Int.reduceGE, Int.reduceNeg, Int.reduceAdd, Int.reduceSub, Nat.reduceMul, Nat.reduceLT, Int.reduceToNat]; rfl
  by_cases e9 : f = 4
  · subst e9; simp -implicitDefEqProofs only [c131, go_sem, Nat.reduceEqDiff, Nat.reduceAdd, Nat.reduceLeDiff, ↓reduceIte, reduceCtorEq, Int.reduceBEq, Int.reduceBNe, Int.reduceLT, Int.reduceLE, Int.reduceGT, Int.reduceGE, Int.reduceNeg, Int.reduceAdd, Int.reduceSub, Nat.reduceMul, Nat.reduceLT, Int.reduceToNat]; rfl
  by_cases e10 : f = 5
  · subst e10; simp -implicitDefEqProofs only [c131, go_sem, Nat.reduceEqDiff, Nat.reduceAdd, Nat.reduceLeDiff, ↓reduceIte, reduceCtorEq, Int.reduceBEq, Int.reduceBNe, Int.reduceLT, Int.reduceLE, Int.reduceGT, Int.reduceGE, Int.reduceNeg, Int.reduceAdd, Int.reduceSub, Nat.reduceMul, Nat.reduceLT, Int.reduceToNat]; rfl
  by_cases e11 : f = 6
  · subst e11; simp -implicitDefEqProofs only [c131, go_sem, Nat.reduceEqDiff, Nat.reduceAdd, Nat.reduceLeDiff, ↓reduceIte, reduceCtorEq, Int.reduceBEq, Int.reduceBNe, Int.reduceLT, Int.reduceLE, Int.reduceGT, Int.reduceGE, Int.reduceNeg, Int.reduceAdd, Int.reduceSub, Nat.reduceMul, Nat.reduceLT, Int.reduceToNat]; rfl
  simp -implicitDefEqProofs only [c131, go_sem, Nat.reduceEqDiff, Nat.reduceAdd, Nat.reduceLeDiff, ↓reduceIte, reduceCtorEq, Int.reduceBEq, Int.reduceBNe, Int.reduceLT, Int.reduceLE, Int.reduceGT, Int.reduceGE, Int.reduceNeg, Int.reduceAdd, Int.reduceSub, Nat.reduceMul, Nat.reduceLT, Int.reduceToNat, bne_of e1, bne_of e2, bne_of e3, bne_of e4, bne_of e5, bne_of e6, bne_of e7, bne_of e8, bne_of e9, bne_of e10, bne_of e11]
  simp only [kidsF, e1, e2, e3, e4, e5, e6, e7, e8, e9, e10, e11, if_false]

/-- The reference tells whether a level is canonical. -/
def CanSpec2 (r : Lv → Bool) (l : Lv) : Prop := ∀ (vx : AV) (vs : List AV) (H : AHeap), SlR l.vars.length vx vs → VarsR l.vars vs → SCall Try.prog 132 [.agg [aint l.n, vx]] H fun x H' => x = abl (r l) ∧ H' = H
def Fine2 (r : Lv → Bool) (t : Tm) : Prop := t.lv.length ≤ 4611686018427387904 ∧ t.kids.length ≤ 4611686018427387904 ∧ ∀ l ∈ t.lv, CanSpec2 r l

theorem formF_eq (r : Lv → Bool) (f n : Int) (hid : Bool) (s : ByteArray) (lv : List Lv) (ks : List Tm) (hk : kidsF f = (ks.length : Int)) : formF r (.mk f n hid s lv ks) = if f = 1 ∨ f = 11 then decide (n ≥ 0) && decide (n ≤ 1073741824)
      else if f = 7 then headIs 6 ks
      else if f = 2 then ((lv.length : Int) == 1) && lv.all r
      else if f = 10 then !(s.data.toList == []) && decide ((s.size : Int) ≤ 60) && lv.all r
      else true := by
  simp only [formF, Tm.form, Tm.kids, Tm.n, Tm.lv, Tm.name, ne_eq, hk, not_true_eq_false, if_false]
  rfl

set_option maxRecDepth 100000 in
theorem formed2_ok (r : Lv → Bool) : ∀ t, Tm.All (Fine2 r) t → ∀ (cells : List AV), TmR t cells → ∀ (H : AHeap),
    SCall Try.prog 87 [.agg cells] H fun x H' => x = abl (allF (formF r) t) ∧ H' = H := by
  refine Tm.rule fun f n hid s lv ks ih hall cells hT H => ?_
  simp only [Tm.All] at hall
  obtain ⟨⟨hn1, hn2, hcan⟩, hallK⟩ := hall
  simp only [Tm.lv, Tm.kids] at hn1 hn2 hcan
  refine SCall.val (SCall.intro mixed cf87 ?_)
  obtain ⟨lx, kx, ls, cs, rfl, hl1, hl2, hk1, hk2⟩ := hT.six
  simp only [Tm.form, Tm.n, Tm.hid, Tm.name, Tm.lv, Tm.kids] at hl1 hl2 hk1 hk2 ⊢
  have w1 := fun H => hk1.alen H
  have w2 := fun H => hl1.alen H
  simp -implicitDefEqProofs only [c87, go_sem, Nat.reduceEqDiff, Nat.reduceAdd, Nat.reduceLeDiff, ↓reduceIte, reduceCtorEq, Int.reduceBEq, Int.reduceBNe, Int.reduceLT, Int.reduceLE, Int.reduceGT, Int.reduceGE, Int.reduceNeg, Int.reduceAdd, Int.reduceSub, Nat.reduceMul, Nat.reduceLT, Int.reduceToNat, hk1.one, hl1.one, hk1.cells, hl1.cells, w1, w2]
  refine i_callA (fs := []) (cs := []) (fid := 131) ?_ ?_ (kids2_ok f _) ?_
  · rfl
  · simp -implicitDefEqProofs only [go_sem, Nat.reduceEqDiff, Nat.reduceAdd, Nat.reduceLeDiff, ↓reduceIte, reduceCtorEq, Int.reduceBEq, Int.reduceBNe, Int.reduceLT, Int.reduceLE, Int.reduceGT, Int.reduceGE, Int.reduceNeg, Int.reduceAdd, Int.reduceSub, Nat.reduceMul, Nat.reduceLT, Int.reduceToNat]
  rintro x H3 ⟨rfl, rfl⟩
  have hE : ∀ o, Ext H (H.new o) := ext_new H
  by_cases hk : kidsF f = (ks.length : Int)
  case neg =>
    have hv : allF (formF r) (.mk f n hid s lv ks) = false := by
      simp only [allF, formF, Tm.form, Tm.kids, ne_eq, hk, not_false_eq_true, if_true, Bool.false_and]
    by_cases h0 : kidsF f < 0
    · simp -implicitDefEqProofs only [go_sem, Nat.reduceEqDiff, Nat.reduceAdd, Nat.reduceLeDiff, ↓reduceIte, reduceCtorEq, Int.reduceBEq, Int.reduceBNe, Int.reduceLT, Int.reduceLE, Int.reduceGT, Int.reduceGE, Int.reduceNeg, Int.reduceAdd, Int.reduceSub, Nat.reduceMul, Nat.reduceLT, Int.reduceToNat, w1, w2, h0]
      exact ⟨by rw [hv], hE _⟩
    · simp -implicitDefEqProofs only [go_sem, Nat.reduceEqDiff, Nat.reduceAdd, Nat.reduceLeDiff, ↓reduceIte, reduceCtorEq, Int.reduceBEq, Int.reduceBNe, Int.reduceLT, Int.reduceLE, Int.reduceGT, Int.reduceGE, Int.reduceNeg, Int.reduceAdd, Int.reduceSub, Nat.reduceMul, Nat.reduceLT, Int.reduceToNat, w1, w2, h0, bne_of hk]
      exact ⟨by rw [hv], hE _⟩
  have hform := formF_eq r f n hid s lv ks hk
  rw [hk]
  have h0 : ¬ (ks.length : Int) < 0 := by omega
  have hkb : ((ks.length : Int) == (ks.length : Int)) = true := by simp
  by_cases e1 : f = 1
  · subst e1
    have hform : formF r (.mk 1 n hid s lv ks) = (decide (n ≥ 0) && decide (n ≤ 1073741824)) := by rw [hform]; rfl
    by_cases hn0 : n < 0
    · have hn0' : ¬ n ≥ 0 := by omega
      simp -implicitDefEqProofs only [go_sem, Nat.reduceEqDiff, Nat.reduceAdd, Nat.reduceLeDiff, ↓reduceIte, reduceCtorEq, Int.reduceBEq, Int.reduceBNe, Int.reduceLT, Int.reduceLE, Int.reduceGT, Int.reduceGE, Int.reduceNeg, Int.reduceAdd, Int.reduceSub, Nat.reduceMul, Nat.reduceLT, Int.reduceToNat, w1, w2, h0, hkb, hn0]
      exact ⟨by simp only [allF, hform, hn0', decide_false, Bool.false_and], hE _⟩
    have hn0' : n ≥ 0 := by omega
    by_cases hn1' : n > 1073741824
    · have hn1'' : ¬ n ≤ 1073741824 := by omega
      simp -implicitDefEqProofs only [go_sem, Nat.reduceEqDiff, Nat.reduceAdd, Nat.reduceLeDiff, ↓reduceIte, reduceCtorEq, Int.reduceBEq, Int.reduceBNe, Int.reduceLT, Int.reduceLE, Int.reduceGT, Int.reduceGE, Int.reduceNeg, Int.reduceAdd, Int.reduceSub, Nat.reduceMul, Nat.reduceLT, Int.reduceToNat, w1, w2, h0, hkb, hn0, hn1']
      exact ⟨by simp only [allF, hform, hn1'', decide_false, Bool.false_and, Bool.and_false], hE _⟩
    have hn1'' : n ≤ 1073741824 := by omega
    have hres : allF (formF r) (.mk 1 n hid s lv ks) = allK (formF r) ks := by simp only [allF, hform, hn0', hn1'', decide_true, Bool.true_and]
    simp -implicitDefEqProofs only [go_sem, Nat.reduceEqDiff, Nat.reduceAdd, Nat.reduceLeDiff, ↓reduceIte, reduceCtorEq, Int.reduceBEq, Int.reduceBNe, Int.reduceLT, Int.reduceLE, Int.reduceGT, Int.reduceGE, Int.reduceNeg, Int.reduceAdd, Int.reduceSub, Nat.reduceMul, Nat.reduceLT, Int.reduceToNat, w1, w2, h0, hkb, hn0, hn1']
    refine swp_loop (fun k st => ∃ (i : Nat), k = ks.length - i ∧ i ≤ ks.length ∧ st.tm 1 = .ptr H.next 0 ∧ st.tm 3 = aint ks.length ∧ st.tm 6 = aint i ∧ Ext (H.new (.cells [aint 1, aint n, abl hid, .v (.string s), lx, kx])) st.heap ∧ allK (formF r) ks = allK (formF r) (ks.drop i)) (k := ks.length) ⟨0, ?_⟩ ?_
    · exact ⟨by omega, by omega, rfl, rfl, rfl, ⟨Nat.le_refl _, fun _ _ => rfl⟩, by simp⟩
    rintro k ⟨tm, H2⟩ ⟨i, rfl, hi, t1, t3, t6, ⟨hx1, hx2⟩, hr⟩
    simp only at t1 t3 t6 hx1 hx2
    rw [new_next] at hx1
    have hb : H2.get H.next = some (.cells [aint 1, aint n, abl hid, .v (.string s), lx, kx]) := by
      rw [hx2 H.next (by rw [new_next]; omega), new_get, if_pos rfl]
    have hE2 : Ext H H2 := ⟨by omega, fun b hb' => by rw [hx2 b (by rw [new_next]; omega), new_get, if_neg (by omega)]⟩
    by_cases hlt : i < ks.length
    · obtain ⟨kc, hkc, hle, hld⟩ := hk2.load (List.getElem?_eq_getElem hlt)
      have hix := hk1.aix 6 hlt
      have hdrop : ks.drop i = ks[i] :: ks.drop (i + 1) := List.drop_eq_getElem_cons hlt
      have hltI : (i : Int) < (ks.length : Int) := by omega
      have w3 : IntKind.i64.wrap ((i : Int) + 1) = (i : Int) + 1 := i64_ok _ (by omega)
      simp -implicitDefEqProofs only [go_sem, Nat.reduceEqDiff, Nat.reduceAdd, Nat.reduceLeDiff, ↓reduceIte, reduceCtorEq, Int.reduceBEq, Int.reduceBNe, Int.reduceLT, Int.reduceLE, Int.reduceGT, Int.reduceGE, Int.reduceNeg, Int.reduceAdd, Int.reduceSub, Nat.reduceMul, Nat.reduceLT, Int.reduceToNat, t1, t3, t6, hb, hltI, hix, hle, hld]
      refine i_callA (fs := []) (cs := []) (fid := 87) ?_ ?_ (ih ks[i] (List.getElem_mem hlt) (hallK.mem _ (List.getElem_mem hlt)) _ hkc _) ?_
      · rfl
      · simp -implicitDefEqProofs only [go_sem, Nat.reduceEqDiff, Nat.reduceAdd, Nat.reduceLeDiff, ↓reduceIte, reduceCtorEq, Int.reduceBEq, Int.reduceBNe, Int.reduceLT, Int.reduceLE, Int.reduceGT, Int.reduceGE, Int.reduceNeg, Int.reduceAdd, Int.reduceSub, Nat.reduceMul, Nat.reduceLT, Int.reduceToNat]
      rintro x H3 ⟨rfl, rfl⟩
      cases hf1 : allF (formF r) ks[i] with
      | true =>
        simp -implicitDefEqProofs only [go_sem, Nat.reduceEqDiff, Nat.reduceAdd, Nat.reduceLeDiff, ↓reduceIte, reduceCtorEq, Int.reduceBEq, Int.reduceBNe, Int.reduceLT, Int.reduceLE, Int.reduceGT, Int.reduceGE, Int.reduceNeg, Int.reduceAdd, Int.reduceSub, Nat.reduceMul, Nat.reduceLT, Int.reduceToNat, t6, w3]
        refine ⟨ks.length - (i + 1), by omega, i + 1, rfl, ?_⟩
        and_intros
        all_goals first | omega | assumption | rfl | exact ⟨by rw [new_next]; omega, hx2⟩ | (rw [hr, hdrop]; simp only [allK, hf1, Bool.true_and]) | simp
      | false =>
        simp -implicitDefEqProofs only [go_sem, Nat.reduceEqDiff, Nat.reduceAdd, Nat.reduceLeDiff, ↓reduceIte, reduceCtorEq, Int.reduceBEq, Int.reduceBNe, Int.reduceLT, Int.reduceLE, Int.reduceGT, Int.reduceGE, Int.reduceNeg, Int.reduceAdd, Int.reduceSub, Nat.reduceMul, Nat.reduceLT, Int.reduceToNat]
        refine ⟨?_, hE2⟩
        rw [hres, hr, hdrop]; simp only [allK, hf1, Bool.false_and]
    · have hir : i = ks.length := by omega
      have hltI : ¬ (i : Int) < (ks.length : Int) := by omega
      simp -implicitDefEqProofs only [go_sem, Nat.reduceEqDiff, Nat.reduceAdd, Nat.reduceLeDiff, ↓reduceIte, reduceCtorEq, Int.reduceBEq, Int.reduceBNe, Int.reduceLT, Int.reduceLE, Int.reduceGT, Int.reduceGE, Int.reduceNeg, Int.reduceAdd, Int.reduceSub, Nat.reduceMul, Nat.reduceLT, Int.reduceToNat, t3, t6, hltI]
      refine ⟨?_, hE2⟩
      rw [hres, hr, hir, List.drop_length]
      rfl
  by_cases e11 : f = 11
  · subst e11
    have hform : formF r (.mk 11 n hid s lv ks) = (decide (n ≥ 0) && decide (n ≤ 1073741824)) := by rw [hform]; rfl
    by_cases hn0 : n < 0
    · have hn0' : ¬ n ≥ 0 := by omega
      simp -implicitDefEqProofs only [go_sem, Nat.reduceEqDiff, Nat.reduceAdd, Nat.reduceLeDiff, ↓reduceIte, reduceCtorEq, Int.reduceBEq, Int.reduceBNe, Int.reduceLT, Int.reduceLE, Int.reduceGT, Int.reduceGE, Int.reduceNeg, Int.reduceAdd, Int.reduceSub, Nat.reduceMul, Nat.reduceLT, Int.reduceToNat, w1, w2, h0, hkb, hn0]
      exact ⟨by simp only [allF, hform, hn0', decide_false, Bool.false_and], hE _⟩
    have hn0' : n ≥ 0 := by omega
    by_cases hn1' : n > 1073741824
    · have hn1'' : ¬ n ≤ 1073741824 := by omega
      simp -implicitDefEqProofs only [go_sem, Nat.reduceEqDiff, Nat.reduceAdd, Nat.reduceLeDiff, ↓reduceIte, reduceCtorEq, Int.reduceBEq, Int.reduceBNe, Int.reduceLT, Int.reduceLE, Int.reduceGT, Int.reduceGE, Int.reduceNeg, Int.reduceAdd, Int.reduceSub, Nat.reduceMul, Nat.reduceLT, Int.reduceToNat, w1, w2, h0, hkb, hn0, hn1']
      exact ⟨by simp only [allF, hform, hn1'', decide_false, Bool.false_and, Bool.and_false], hE _⟩
    have hn1'' : n ≤ 1073741824 := by omega
    have hres : allF (formF r) (.mk 11 n hid s lv ks) = allK (formF r) ks := by simp only [allF, hform, hn0', hn1'', decide_true, Bool.true_and]
    simp -implicitDefEqProofs only [go_sem, Nat.reduceEqDiff, Nat.reduceAdd, Nat.reduceLeDiff, ↓reduceIte, reduceCtorEq, Int.reduceBEq, Int.reduceBNe, Int.reduceLT, Int.reduceLE, Int.reduceGT, Int.reduceGE, Int.reduceNeg, Int.reduceAdd, Int.reduceSub, Nat.reduceMul, Nat.reduceLT, Int.reduceToNat, w1, w2, h0, hkb, hn0, hn1']
    refine swp_loop (fun k st => ∃ (i : Nat), k = ks.length - i ∧ i ≤ ks.length ∧ st.tm 1 = .ptr H.next 0 ∧ st.tm 3 = aint ks.length ∧ st.tm 6 = aint i ∧ Ext (H.new (.cells [aint 11, aint n, abl hid, .v (.string s), lx, kx])) st.heap ∧ allK (formF r) ks = allK (formF r) (ks.drop i)) (k := ks.length) ⟨0, ?_⟩ ?_
    · exact ⟨by omega, by omega, rfl, rfl, rfl, ⟨Nat.le_refl _, fun _ _ => rfl⟩, by simp⟩
    rintro k ⟨tm, H2⟩ ⟨i, rfl, hi, t1, t3, t6, ⟨hx1, hx2⟩, hr⟩
    simp only at t1 t3 t6 hx1 hx2
    rw [new_next] at hx1
    have hb : H2.get H.next = some (.cells [aint 11, aint n, abl hid, .v (.string s), lx, kx]) := by
      rw [hx2 H.next (by rw [new_next]; omega), new_get, if_pos rfl]
    have hE2 : Ext H H2 := ⟨by omega, fun b hb' => by rw [hx2 b (by rw [new_next]; omega), new_get, if_neg (by omega)]⟩
    by_cases hlt : i < ks.length
    · obtain ⟨kc, hkc, hle, hld⟩ := hk2.load (List.getElem?_eq_getElem hlt)
      have hix := hk1.aix 6 hlt
      have hdrop : ks.drop i = ks[i] :: ks.drop (i + 1) := List.drop_eq_getElem_cons hlt
      have hltI : (i : Int) < (ks.length : Int) := by omega
      have w3 : IntKind.i64.wrap ((i : Int) + 1) = (i : Int) + 1 := i64_ok _ (by omega)
      simp -implicitDefEqProofs only [go_sem, Nat.reduceEqDiff, Nat.reduceAdd, Nat.reduceLeDiff, ↓reduceIte, reduceCtorEq, Int.reduceBEq, Int.reduceBNe, Int.reduceLT, Int.reduceLE, Int.reduceGT, Int.reduceGE, Int.reduceNeg, Int.reduceAdd, Int.reduceSub, Nat.reduceMul, Nat.reduceLT, Int.reduceToNat, t1, t3, t6, hb, hltI, hix, hle, hld]
      refine i_callA (fs := []) (cs := []) (fid := 87) ?_ ?_ (ih ks[i] (List.getElem_mem hlt) (hallK.mem _ (List.getElem_mem hlt)) _ hkc _) ?_
      · rfl
      · simp -implicitDefEqProofs only [go_sem, Nat.reduceEqDiff, Nat.reduceAdd, Nat.reduceLeDiff, ↓reduceIte, reduceCtorEq, Int.reduceBEq, Int.reduceBNe, Int.reduceLT, Int.reduceLE, Int.reduceGT, Int.reduceGE, Int.reduceNeg, Int.reduceAdd, Int.reduceSub, Nat.reduceMul, Nat.reduceLT, Int.reduceToNat]
      rintro x H3 ⟨rfl, rfl⟩
      cases hf1 : allF (formF r) ks[i] with
      | true =>
        simp -implicitDefEqProofs only [go_sem, Nat.reduceEqDiff, Nat.reduceAdd, Nat.reduceLeDiff, ↓reduceIte, reduceCtorEq, Int.reduceBEq, Int.reduceBNe, Int.reduceLT, Int.reduceLE, Int.reduceGT, Int.reduceGE, Int.reduceNeg, Int.reduceAdd, Int.reduceSub, Nat.reduceMul, Nat.reduceLT, Int.reduceToNat, t6, w3]
        refine ⟨ks.length - (i + 1), by omega, i + 1, rfl, ?_⟩
        and_intros
        all_goals first | omega | assumption | rfl | exact ⟨by rw [new_next]; omega, hx2⟩ | (rw [hr, hdrop]; simp only [allK, hf1, Bool.true_and]) | simp
      | false =>
        simp -implicitDefEqProofs only [go_sem, Nat.reduceEqDiff, Nat.reduceAdd, Nat.reduceLeDiff, ↓reduceIte, reduceCtorEq, Int.reduceBEq, Int.reduceBNe, Int.reduceLT, Int.reduceLE, Int.reduceGT, Int.reduceGE, Int.reduceNeg, Int.reduceAdd, Int.reduceSub, Nat.reduceMul, Nat.reduceLT, Int.reduceToNat]
        refine ⟨?_, hE2⟩
        rw [hres, hr, hdrop]; simp only [allK, hf1, Bool.false_and]
    · have hir : i = ks.length := by omega
      have hltI : ¬ (i : Int) < (ks.length : Int) := by omega
      simp -implicitDefEqProofs only [go_sem, Nat.reduceEqDiff, Nat.reduceAdd, Nat.reduceLeDiff, ↓reduceIte, reduceCtorEq, Int.reduceBEq, Int.reduceBNe, Int.reduceLT, Int.reduceLE, Int.reduceGT, Int.reduceGE, Int.reduceNeg, Int.reduceAdd, Int.reduceSub, Nat.reduceMul, Nat.reduceLT, Int.reduceToNat, t3, t6, hltI]
      refine ⟨?_, hE2⟩
      rw [hres, hr, hir, List.drop_length]
      rfl
  by_cases e7 : f = 7
  · subst e7
    have hform : formF r (.mk 7 n hid s lv ks) = headIs 6 ks := by rw [hform]; rfl
    have hlen : ks.length = 3 := by
      have : kidsF 7 = 3 := rfl
      omega
    obtain ⟨k, hk0⟩ : ∃ k, ks[0]? = some k := ⟨_, List.getElem?_eq_getElem (by omega)⟩
    have hhead : headIs 6 ks = (k.form == 6) := by
      cases ks with
      | nil => simp at hk0
      | cons k' ks' => simp at hk0; subst hk0; rfl
    have hix := hk1.aix 6 (i := 0) (by omega)
    obtain ⟨kc, hkc, hle, hld⟩ := hk2.load (i := 0) (k := k) hk0
    obtain ⟨lx1, kx1, ls1, cs1, hkc6, _⟩ := hkc.six
    rw [hkc6] at hld
    simp only [Nat.zero_mul, Nat.zero_add, List.drop_zero, Int.natCast_zero, Int.ofNat_zero, Int.ofNat_eq_natCast, Int.cast_ofNat_Int] at hle hld hix
    have hle1 : 1 ≤ cs.length := by omega
    have hld1 : cs.take 1 = [aint k.form] := by
      have := congrArg (List.take 1) hld
      rw [List.take_take] at this
      exact this
    cases h6 : (k.form == 6) with
    | false =>
      simp -implicitDefEqProofs only [go_sem, Nat.reduceEqDiff, Nat.reduceAdd, Nat.reduceLeDiff, ↓reduceIte, reduceCtorEq, Int.reduceBEq, Int.reduceBNe, Int.reduceLT, Int.reduceLE, Int.reduceGT, Int.reduceGE, Int.reduceNeg, Int.reduceAdd, Int.reduceSub, Nat.reduceMul, Nat.reduceLT, Int.reduceToNat, w1, w2, h0, hkb, hix, hle1, hld1, h6]
      exact ⟨by simp only [allF, hform, hhead, h6, Bool.false_and], hE _⟩
    | true =>
    have hres : allF (formF r) (.mk 7 n hid s lv ks) = allK (formF r) ks := by simp only [allF, hform, hhead, h6, Bool.true_and]
    clear hle hld hix hkc hkc6
    have hix := hk1.aix 6 (i := 0) (by omega)
    simp only [Nat.zero_mul, Int.natCast_zero, Int.ofNat_zero, Int.ofNat_eq_natCast, Int.cast_ofNat_Int] at hix
    simp -implicitDefEqProofs only [go_sem, Nat.reduceEqDiff, Nat.reduceAdd, Nat.reduceLeDiff, ↓reduceIte, reduceCtorEq, Int.reduceBEq, Int.reduceBNe, Int.reduceLT, Int.reduceLE, Int.reduceGT, Int.reduceGE, Int.reduceNeg, Int.reduceAdd, Int.reduceSub, Nat.reduceMul, Nat.reduceLT, Int.reduceToNat, w1, w2, h0, hkb, hix, hle1, hld1, h6]
    clear hix
    refine swp_loop (fun k st => ∃ (i : Nat), k = ks.length - i ∧ i ≤ ks.length ∧ st.tm 1 = .ptr H.next 0 ∧ st.tm 3 = aint ks.length ∧ st.tm 6 = aint i ∧ Ext (H.new (.cells [aint 7, aint n, abl hid, .v (.string s), lx, kx])) st.heap ∧ allK (formF r) ks = allK (formF r) (ks.drop i)) (k := ks.length) ⟨0, ?_⟩ ?_
    · exact ⟨by omega, by omega, rfl, rfl, rfl, ⟨Nat.le_refl _, fun _ _ => rfl⟩, by simp⟩
    rintro k ⟨tm, H2⟩ ⟨i, rfl, hi, t1, t3, t6, ⟨hx1, hx2⟩, hr⟩
    simp only at t1 t3 t6 hx1 hx2
    rw [new_next] at hx1
    have hb : H2.get H.next = some (.cells [aint 7, aint n, abl hid, .v (.string s), lx, kx]) := by
      rw [hx2 H.next (by rw [new_next]; omega), new_get, if_pos rfl]
    have hE2 : Ext H H2 := ⟨by omega, fun b hb' => by rw [hx2 b (by rw [new_next]; omega), new_get, if_neg (by omega)]⟩
    by_cases hlt : i < ks.length
    · obtain ⟨kc, hkc, hle, hld⟩ := hk2.load (List.getElem?_eq_getElem hlt)
      have hix := hk1.aix 6 hlt
      have hdrop : ks.drop i = ks[i] :: ks.drop (i + 1) := List.drop_eq_getElem_cons hlt
      have hltI : (i : Int) < (ks.length : Int) := by omega
      have w3 : IntKind.i64.wrap ((i : Int) + 1) = (i : Int) + 1 := i64_ok _ (by omega)
      simp -implicitDefEqProofs only [go_sem, Nat.reduceEqDiff, Nat.reduceAdd, Nat.reduceLeDiff, ↓reduceIte, reduceCtorEq, Int.reduceBEq, Int.reduceBNe, Int.reduceLT, Int.reduceLE, Int.reduceGT, Int.reduceGE, Int.reduceNeg, Int.reduceAdd, Int.reduceSub, Nat.reduceMul, Nat.reduceLT, Int.reduceToNat, t1, t3, t6, hb, hltI, hix, hle, hld]
      refine i_callA (fs := []) (cs := []) (fid := 87) ?_ ?_ (ih ks[i] (List.getElem_mem hlt) (hallK.mem _ (List.getElem_mem hlt)) _ hkc _) ?_
      · rfl
      · simp -implicitDefEqProofs only [go_sem, Nat.reduceEqDiff, Nat.reduceAdd, Nat.reduceLeDiff, ↓reduceIte, reduceCtorEq, Int.reduceBEq, Int.reduceBNe, Int.reduceLT, Int.reduceLE, Int.reduceGT, Int.reduceGE, Int.reduceNeg, Int.reduceAdd, Int.reduceSub, Nat.reduceMul, Nat.reduceLT, Int.reduceToNat]
      rintro x H3 ⟨rfl, rfl⟩
      cases hf1 : allF (formF r) ks[i] with
      | true =>
        simp -implicitDefEqProofs only [go_sem, Nat.reduceEqDiff, Nat.reduceAdd, Nat.reduceLeDiff, ↓reduceIte, reduceCtorEq, Int.reduceBEq, Int.reduceBNe, Int.reduceLT, Int.reduceLE, Int.reduceGT, Int.reduceGE, Int.reduceNeg, Int.reduceAdd, Int.reduceSub, Nat.reduceMul, Nat.reduceLT, Int.reduceToNat, t6, w3]
        refine ⟨ks.length - (i + 1), by omega, i + 1, rfl, ?_⟩
        and_intros
        all_goals first | omega | assumption | rfl | exact ⟨by rw [new_next]; omega, hx2⟩ | (rw [hr, hdrop]; simp only [allK, hf1, Bool.true_and]) | simp
      | false =>
        simp -implicitDefEqProofs only [go_sem, Nat.reduceEqDiff, Nat.reduceAdd, Nat.reduceLeDiff, ↓reduceIte, reduceCtorEq, Int.reduceBEq, Int.reduceBNe, Int.reduceLT, Int.reduceLE, Int.reduceGT, Int.reduceGE, Int.reduceNeg, Int.reduceAdd, Int.reduceSub, Nat.reduceMul, Nat.reduceLT, Int.reduceToNat]
        refine ⟨?_, hE2⟩
        rw [hres, hr, hdrop]; simp only [allK, hf1, Bool.false_and]
    · have hir : i = ks.length := by omega
      have hltI : ¬ (i : Int) < (ks.length : Int) := by omega
      simp -implicitDefEqProofs only [go_sem, Nat.reduceEqDiff, Nat.reduceAdd, Nat.reduceLeDiff, ↓reduceIte, reduceCtorEq, Int.reduceBEq, Int.reduceBNe, Int.reduceLT, Int.reduceLE, Int.reduceGT, Int.reduceGE, Int.reduceNeg, Int.reduceAdd, Int.reduceSub, Nat.reduceMul, Nat.reduceLT, Int.reduceToNat, t3, t6, hltI]
      refine ⟨?_, hE2⟩
      rw [hres, hr, hir, List.drop_length]
      rfl
  by_cases e2 : f = 2
  · subst e2
    have hform : formF r (.mk 2 n hid s lv ks) = (((lv.length : Int) == 1) && lv.all r) := by rw [hform]; rfl
    cases hl : ((lv.length : Int) == 1) with
    | false =>
      simp -implicitDefEqProofs only [go_sem, Nat.reduceEqDiff, Nat.reduceAdd, Nat.reduceLeDiff, ↓reduceIte, reduceCtorEq, Int.reduceBEq, Int.reduceBNe, Int.reduceLT, Int.reduceLE, Int.reduceGT, Int.reduceGE, Int.reduceNeg, Int.reduceAdd, Int.reduceSub, Nat.reduceMul, Nat.reduceLT, Int.reduceToNat, w1, w2, h0, hkb, hl]
      exact ⟨by simp only [allF, hform, hl, Bool.false_and], hE _⟩
    | true =>
    simp -implicitDefEqProofs only [go_sem, Nat.reduceEqDiff, Nat.reduceAdd, Nat.reduceLeDiff, ↓reduceIte, reduceCtorEq, Int.reduceBEq, Int.reduceBNe, Int.reduceLT, Int.reduceLE, Int.reduceGT, Int.reduceGE, Int.reduceNeg, Int.reduceAdd, Int.reduceSub, Nat.reduceMul, Nat.reduceLT, Int.reduceToNat, w1, w2, h0, hkb, hl]
    refine swp_loop (fun k st => ∃ (i : Nat), k = lv.length - i ∧ i ≤ lv.length ∧ st.tm 1 = .ptr H.next 0 ∧ st.tm 3 = aint ks.length ∧ st.tm 4 = aint i ∧ Ext (H.new (.cells [aint 2, aint n, abl hid, .v (.string s), lx, kx])) st.heap ∧ lv.all r = (lv.drop i).all r) (k := lv.length) ⟨0, ?_⟩ ?_
    · exact ⟨by omega, by omega, rfl, rfl, rfl, ⟨Nat.le_refl _, fun _ _ => rfl⟩, by simp⟩
    rintro k ⟨tm, H2⟩ ⟨i, rfl, hi, t1, t3, t4, hxx, hr⟩
    obtain ⟨hx1, hx2⟩ := hxx
    simp only at t1 t3 t4 hx1 hx2
    rw [new_next] at hx1
    have hb : H2.get H.next = some (.cells [aint 2, aint n, abl hid, .v (.string s), lx, kx]) := by
      rw [hx2 H.next (by rw [new_next]; omega), new_get, if_pos rfl]
    have hE2 : Ext H H2 := ⟨by omega, fun b hb' => by rw [hx2 b (by rw [new_next]; omega), new_get, if_neg (by omega)]⟩
    by_cases hlt : i < lv.length
    · obtain ⟨vx, vs, hle, hld, hv1, hv2⟩ := hl2.at (List.getElem?_eq_getElem hlt)
      have hix := hl1.aix 2 hlt
      have hdrop : lv.drop i = lv[i] :: lv.drop (i + 1) := List.drop_eq_getElem_cons hlt
      have hltI : (i : Int) < (lv.length : Int) := by omega
      have w3 : IntKind.i64.wrap ((i : Int) + 1) = (i : Int) + 1 := i64_ok _ (by omega)
      simp -implicitDefEqProofs only [go_sem, Nat.reduceEqDiff, Nat.reduceAdd, Nat.reduceLeDiff, ↓reduceIte, reduceCtorEq, Int.reduceBEq, Int.reduceBNe, Int.reduceLT, Int.reduceLE, Int.reduceGT, Int.reduceGE, Int.reduceNeg, Int.reduceAdd, Int.reduceSub, Nat.reduceMul, Nat.reduceLT, Int.reduceToNat, t1, t3, t4, hb, w2, hltI, hix, hle, hld]
      refine i_callA (fs := []) (cs := []) (fid := 132) ?_ ?_ (hcan lv[i] (List.getElem_mem hlt) vx vs _ hv1 hv2) ?_
      · rfl
      · simp -implicitDefEqProofs only [go_sem, Nat.reduceEqDiff, Nat.reduceAdd, Nat.reduceLeDiff, ↓reduceIte, reduceCtorEq, Int.reduceBEq, Int.reduceBNe, Int.reduceLT, Int.reduceLE, Int.reduceGT, Int.reduceGE, Int.reduceNeg, Int.reduceAdd, Int.reduceSub, Nat.reduceMul, Nat.reduceLT, Int.reduceToNat]
      rintro x H3 ⟨rfl, rfl⟩
      cases hf1 : r lv[i] with
      | true =>
        simp -implicitDefEqProofs only [go_sem, Nat.reduceEqDiff, Nat.reduceAdd, Nat.reduceLeDiff, ↓reduceIte, reduceCtorEq, Int.reduceBEq, Int.reduceBNe, Int.reduceLT, Int.reduceLE, Int.reduceGT, Int.reduceGE, Int.reduceNeg, Int.reduceAdd, Int.reduceSub, Nat.reduceMul, Nat.reduceLT, Int.reduceToNat, t4, w3]
        refine ⟨lv.length - (i + 1), by omega, i + 1, rfl, ?_⟩
        and_intros
        all_goals first | omega | assumption | rfl | exact ⟨by rw [new_next]; omega, hx2⟩ | (rw [hr, hdrop, List.all_cons, hf1, Bool.true_and]) | simp
      | false =>
        simp -implicitDefEqProofs only [go_sem, Nat.reduceEqDiff, Nat.reduceAdd, Nat.reduceLeDiff, ↓reduceIte, reduceCtorEq, Int.reduceBEq, Int.reduceBNe, Int.reduceLT, Int.reduceLE, Int.reduceGT, Int.reduceGE, Int.reduceNeg, Int.reduceAdd, Int.reduceSub, Nat.reduceMul, Nat.reduceLT, Int.reduceToNat]
        refine ⟨?_, hE2⟩
        have hall0 : lv.all r = false := by rw [hr, hdrop, List.all_cons, hf1]; rfl
        simp only [allF, hform, hall0]
        simp
    · have hir : i = lv.length := by omega
      have hltI : ¬ (i : Int) < (lv.length : Int) := by omega
      have hall1 : lv.all r = true := by rw [hr, hir, List.drop_length]; rfl
      have hres : allF (formF r) (.mk 2 n hid s lv ks) = allK (formF r) ks := by simp only [allF, hform, hall1]; simp only [hl, Bool.true_and]
      simp -implicitDefEqProofs only [go_sem, Nat.reduceEqDiff, Nat.reduceAdd, Nat.reduceLeDiff, ↓reduceIte, reduceCtorEq, Int.reduceBEq, Int.reduceBNe, Int.reduceLT, Int.reduceLE, Int.reduceGT, Int.reduceGE, Int.reduceNeg, Int.reduceAdd, Int.reduceSub, Nat.reduceMul, Nat.reduceLT, Int.reduceToNat, t1, t3, t4, hb, w2, hltI]
      refine swp_loop (fun k st => ∃ (i : Nat), k = ks.length - i ∧ i ≤ ks.length ∧ st.tm 1 = .ptr H.next 0 ∧ st.tm 3 = aint ks.length ∧ st.tm 6 = aint i ∧ Ext (H.new (.cells [aint 2, aint n, abl hid, .v (.string s), lx, kx])) st.heap ∧ allK (formF r) ks = allK (formF r) (ks.drop i)) (k := ks.length) ⟨0, ?_⟩ ?_
      · exact ⟨by omega, by omega, t1, t3, rfl, ⟨by rw [new_next]; omega, hx2⟩, by simp⟩
      rintro k ⟨tm, H2⟩ ⟨i, rfl, hi, t1, t3, t6, ⟨hx1, hx2⟩, hr⟩
      simp only at t1 t3 t6 hx1 hx2
      rw [new_next] at hx1
      have hb : H2.get H.next = some (.cells [aint 2, aint n, abl hid, .v (.string s), lx, kx]) := by
        rw [hx2 H.next (by rw [new_next]; omega), new_get, if_pos rfl]
      have hE2 : Ext H H2 := ⟨by omega, fun b hb' => by rw [hx2 b (by rw [new_next]; omega), new_get, if_neg (by omega)]⟩
      by_cases hlt : i < ks.length
      · obtain ⟨kc, hkc, hle, hld⟩ := hk2.load (List.getElem?_eq_getElem hlt)
        have hix := hk1.aix 6 hlt
        have hdrop : ks.drop i = ks[i] :: ks.drop (i + 1) := List.drop_eq_getElem_cons hlt
        have hltI : (i : Int) < (ks.length : Int) := by omega
        have w3 : IntKind.i64.wrap ((i : Int) + 1) = (i : Int) + 1 := i64_ok _ (by omega)
        simp -implicitDefEqProofs only [go_sem, Nat.reduceEqDiff, Nat.reduceAdd, Nat.reduceLeDiff, ↓reduceIte, reduceCtorEq, Int.reduceBEq, Int.reduceBNe, Int.reduceLT, Int.reduceLE, Int.reduceGT, Int.reduceGE, Int.reduceNeg, Int.reduceAdd, Int.reduceSub, Nat.reduceMul, Nat.reduceLT, Int.reduceToNat, t1, t3, t6, hb, hltI, hix, hle, hld]
        refine i_callA (fs := []) (cs := []) (fid := 87) ?_ ?_ (ih ks[i] (List.getElem_mem hlt) (hallK.mem _ (List.getElem_mem hlt)) _ hkc _) ?_
        · rfl
        · simp -implicitDefEqProofs only [go_sem, Nat.reduceEqDiff, Nat.reduceAdd, Nat.reduceLeDiff, ↓reduceIte, reduceCtorEq, Int.reduceBEq, Int.reduceBNe, Int.reduceLT, Int.reduceLE, Int.reduceGT, Int.reduceGE, Int.reduceNeg, Int.reduceAdd, Int.reduceSub, Nat.reduceMul, Nat.reduceLT, Int.reduceToNat]
        rintro x H3 ⟨rfl, rfl⟩
        cases hf1 : allF (formF r) ks[i] with
        | true =>
          simp -implicitDefEqProofs only [go_sem, Nat.reduceEqDiff, Nat.reduceAdd, Nat.reduceLeDiff, ↓reduceIte, reduceCtorEq, Int.reduceBEq, Int.reduceBNe, Int.reduceLT, Int.reduceLE, Int.reduceGT, Int.reduceGE, Int.reduceNeg, Int.reduceAdd, Int.reduceSub, Nat.reduceMul, Nat.reduceLT, Int.reduceToNat, t6, w3]
          refine ⟨ks.length - (i + 1), by omega, i + 1, rfl, ?_⟩
          and_intros
          all_goals first | omega | assumption | rfl | exact ⟨by rw [new_next]; omega, hx2⟩ | (rw [hr, hdrop]; simp only [allK, hf1, Bool.true_and]) | simp
        | false =>
          simp -implicitDefEqProofs only [go_sem, Nat.reduceEqDiff, Nat.reduceAdd, Nat.reduceLeDiff, ↓reduceIte, reduceCtorEq, Int.reduceBEq, Int.reduceBNe, Int.reduceLT, Int.reduceLE, Int.reduceGT, Int.reduceGE, Int.reduceNeg, Int.reduceAdd, Int.reduceSub, Nat.reduceMul, Nat.reduceLT, Int.reduceToNat]
          refine ⟨?_, hE2⟩
          rw [hres, hr, hdrop]; simp only [allK, hf1, Bool.false_and]
      · have hir : i = ks.length := by omega
        have hltI : ¬ (i : Int) < (ks.length : Int) := by omega
        simp -implicitDefEqProofs only [go_sem, Nat.reduceEqDiff, Nat.reduceAdd, Nat.reduceLeDiff, ↓reduceIte, reduceCtorEq, Int.reduceBEq, Int.reduceBNe, Int.reduceLT, Int.reduceLE, Int.reduceGT, Int.reduceGE, Int.reduceNeg, Int.reduceAdd, Int.reduceSub, Nat.reduceMul, Nat.reduceLT, Int.reduceToNat, t3, t6, hltI]
        refine ⟨?_, hE2⟩
        rw [hres, hr, hir, List.drop_length]
        rfl
  by_cases e10 : f = 10
  · subst e10
    have hform : formF r (.mk 10 n hid s lv ks) = (!(s.data.toList == []) && decide ((s.size : Int) ≤ 60) && lv.all r) := by rw [hform]; rfl
    cases hs : (s.data.toList == []) with
    | true =>
      simp -implicitDefEqProofs only [go_sem, Nat.reduceEqDiff, Nat.reduceAdd, Nat.reduceLeDiff, ↓reduceIte, reduceCtorEq, Int.reduceBEq, Int.reduceBNe, Int.reduceLT, Int.reduceLE, Int.reduceGT, Int.reduceGE, Int.reduceNeg, Int.reduceAdd, Int.reduceSub, Nat.reduceMul, Nat.reduceLT, Int.reduceToNat, sbin, w1, w2, h0, hkb, hs]
      exact ⟨by simp only [allF, hform, hs, Bool.not_true, Bool.false_and], hE _⟩
    | false =>
    by_cases hz : (s.size : Int) > 60
    · have hz' : ¬ (s.size : Int) ≤ 60 := by omega
      simp -implicitDefEqProofs only [go_sem, Nat.reduceEqDiff, Nat.reduceAdd, Nat.reduceLeDiff, ↓reduceIte, reduceCtorEq, Int.reduceBEq, Int.reduceBNe, Int.reduceLT, Int.reduceLE, Int.reduceGT, Int.reduceGE, Int.reduceNeg, Int.reduceAdd, Int.reduceSub, Nat.reduceMul, Nat.reduceLT, Int.reduceToNat, sbin, w1, w2, h0, hkb, hs, hz]
      exact ⟨by simp only [allF, hform, hs, hz', decide_false, Bool.and_false, Bool.false_and], hE _⟩
    have hz' : (s.size : Int) ≤ 60 := by omega
    simp -implicitDefEqProofs only [go_sem, Nat.reduceEqDiff, Nat.reduceAdd, Nat.reduceLeDiff, ↓reduceIte, reduceCtorEq, Int.reduceBEq, Int.reduceBNe, Int.reduceLT, Int.reduceLE, Int.reduceGT, Int.reduceGE, Int.reduceNeg, Int.reduceAdd, Int.reduceSub, Nat.reduceMul, Nat.reduceLT, Int.reduceToNat, sbin, w1, w2, h0, hkb, hs, hz]
    refine swp_loop (fun k st => ∃ (i : Nat), k = lv.length - i ∧ i ≤ lv.length ∧ st.tm 1 = .ptr H.next 0 ∧ st.tm 3 = aint ks.length ∧ st.tm 4 = aint i ∧ Ext (H.new (.cells [aint 10, aint n, abl hid, .v (.string s), lx, kx])) st.heap ∧ lv.all r = (lv.drop i).all r) (k := lv.length) ⟨0, ?_⟩ ?_
    · exact ⟨by omega, by omega, rfl, rfl, rfl, ⟨Nat.le_refl _, fun _ _ => rfl⟩, by simp⟩
    rintro k ⟨tm, H2⟩ ⟨i, rfl, hi, t1, t3, t4, hxx, hr⟩
    obtain ⟨hx1, hx2⟩ := hxx
    simp only at t1 t3 t4 hx1 hx2
    rw [new_next] at hx1
    have hb : H2.get H.next = some (.cells [aint 10, aint n, abl hid, .v (.string s), lx, kx]) := by
      rw [hx2 H.next (by rw [new_next]; omega), new_get, if_pos rfl]
    have hE2 : Ext H H2 := ⟨by omega, fun b hb' => by rw [hx2 b (by rw [new_next]; omega), new_get, if_neg (by omega)]⟩
    by_cases hlt : i < lv.length
    · obtain ⟨vx, vs, hle, hld, hv1, hv2⟩ := hl2.at (List.getElem?_eq_getElem hlt)
      have hix := hl1.aix 2 hlt
      have hdrop : lv.drop i = lv[i] :: lv.drop (i + 1) := List.drop_eq_getElem_cons hlt
      have hltI : (i : Int) < (lv.length : Int) := by omega
      have w3 : IntKind.i64.wrap ((i : Int) + 1) = (i : Int) + 1 := i64_ok _ (by omega)
      simp -implicitDefEqProofs only [go_sem, Nat.reduceEqDiff, Nat.reduceAdd, Nat.reduceLeDiff, ↓reduceIte, reduceCtorEq, Int.reduceBEq, Int.reduceBNe, Int.reduceLT, Int.reduceLE, Int.reduceGT, Int.reduceGE, Int.reduceNeg, Int.reduceAdd, Int.reduceSub, Nat.reduceMul, Nat.reduceLT, Int.reduceToNat, t1, t3, t4, hb, w2, hltI, hix, hle, hld]
      refine i_callA (fs := []) (cs := []) (fid := 132) ?_ ?_ (hcan lv[i] (List.getElem_mem hlt) vx vs _ hv1 hv2) ?_
      · rfl
      · simp -implicitDefEqProofs only [go_sem, Nat.reduceEqDiff, Nat.reduceAdd, Nat.reduceLeDiff, ↓reduceIte, reduceCtorEq, Int.reduceBEq, Int.reduceBNe, Int.reduceLT, Int.reduceLE, Int.reduceGT, Int.reduceGE, Int.reduceNeg, Int.reduceAdd, Int.reduceSub, Nat.reduceMul, Nat.reduceLT, Int.reduceToNat]
      rintro x H3 ⟨rfl, rfl⟩
      cases hf1 : r lv[i] with
      | true =>
        simp -implicitDefEqProofs only [go_sem, Nat.reduceEqDiff, Nat.reduceAdd, Nat.reduceLeDiff, ↓reduceIte, reduceCtorEq, Int.reduceBEq, Int.reduceBNe, Int.reduceLT, Int.reduceLE, Int.reduceGT, Int.reduceGE, Int.reduceNeg, Int.reduceAdd, Int.reduceSub, Nat.reduceMul, Nat.reduceLT, Int.reduceToNat, t4, w3]
        refine ⟨lv.length - (i + 1), by omega, i + 1, rfl, ?_⟩
        and_intros
        all_goals first | omega | assumption | rfl | exact ⟨by rw [new_next]; omega, hx2⟩ | (rw [hr, hdrop, List.all_cons, hf1, Bool.true_and]) | simp
      | false =>
        simp -implicitDefEqProofs only [go_sem, Nat.reduceEqDiff, Nat.reduceAdd, Nat.reduceLeDiff, ↓reduceIte, reduceCtorEq, Int.reduceBEq, Int.reduceBNe, Int.reduceLT, Int.reduceLE, Int.reduceGT, Int.reduceGE, Int.reduceNeg, Int.reduceAdd, Int.reduceSub, Nat.reduceMul, Nat.reduceLT, Int.reduceToNat]
        refine ⟨?_, hE2⟩
        have hall0 : lv.all r = false := by rw [hr, hdrop, List.all_cons, hf1]; rfl
        simp only [allF, hform, hall0]
        simp
    · have hir : i = lv.length := by omega
      have hltI : ¬ (i : Int) < (lv.length : Int) := by omega
      have hall1 : lv.all r = true := by rw [hr, hir, List.drop_length]; rfl
      have hres : allF (formF r) (.mk 10 n hid s lv ks) = allK (formF r) ks := by simp only [allF, hform, hall1]; simp only [hs, hz', decide_true, Bool.not_false, Bool.true_and]
      simp -implicitDefEqProofs only [go_sem, Nat.reduceEqDiff, Nat.reduceAdd, Nat.reduceLeDiff, ↓reduceIte, reduceCtorEq, Int.reduceBEq, Int.reduceBNe, Int.reduceLT, Int.reduceLE, Int.reduceGT, Int.reduceGE, Int.reduceNeg, Int.reduceAdd, Int.reduceSub, Nat.reduceMul, Nat.reduceLT, Int.reduceToNat, t1, t3, t4, hb, w2, hltI]
      refine swp_loop (fun k st => ∃ (i : Nat), k = ks.length - i ∧ i ≤ ks.length ∧ st.tm 1 = .ptr H.next 0 ∧ st.tm 3 = aint ks.length ∧ st.tm 6 = aint i ∧ Ext (H.new (.cells [aint 10, aint n, abl hid, .v (.string s), lx, kx])) st.heap ∧ allK (formF r) ks = allK (formF r) (ks.drop i)) (k := ks.length) ⟨0, ?_⟩ ?_
      · exact ⟨by omega, by omega, t1, t3, rfl, ⟨by rw [new_next]; omega, hx2⟩, by simp⟩
      rintro k ⟨tm, H2⟩ ⟨i, rfl, hi, t1, t3, t6, ⟨hx1, hx2⟩, hr⟩
      simp only at t1 t3 t6 hx1 hx2
      rw [new_next] at hx1
      have hb : H2.get H.next = some (.cells [aint 10, aint n, abl hid, .v (.string s), lx, kx]) := by
        rw [hx2 H.next (by rw [new_next]; omega), new_get, if_pos rfl]
      have hE2 : Ext H H2 := ⟨by omega, fun b hb' => by rw [hx2 b (by rw [new_next]; omega), new_get, if_neg (by omega)]⟩
      by_cases hlt : i < ks.length
      · obtain ⟨kc, hkc, hle, hld⟩ := hk2.load (List.getElem?_eq_getElem hlt)
        have hix := hk1.aix 6 hlt
        have hdrop : ks.drop i = ks[i] :: ks.drop (i + 1) := List.drop_eq_getElem_cons hlt
        have hltI : (i : Int) < (ks.length : Int) := by omega
        have w3 : IntKind.i64.wrap ((i : Int) + 1) = (i : Int) + 1 := i64_ok _ (by omega)
        simp -implicitDefEqProofs only [go_sem, Nat.reduceEqDiff, Nat.reduceAdd, Nat.reduceLeDiff, ↓reduceIte, reduceCtorEq, Int.reduceBEq, Int.reduceBNe, Int.reduceLT, Int.reduceLE, Int.reduceGT, Int.reduceGE, Int.reduceNeg, Int.reduceAdd, Int.reduceSub, Nat.reduceMul, Nat.reduceLT, Int.reduceToNat, t1, t3, t6, hb, hltI, hix, hle, hld]
        refine i_callA (fs := []) (cs := []) (fid := 87) ?_ ?_ (ih ks[i] (List.getElem_mem hlt) (hallK.mem _ (List.getElem_mem hlt)) _ hkc _) ?_
        · rfl
        · simp -implicitDefEqProofs only [go_sem, Nat.reduceEqDiff, Nat.reduceAdd, Nat.reduceLeDiff, ↓reduceIte, reduceCtorEq, Int.reduceBEq, Int.reduceBNe, Int.reduceLT, Int.reduceLE, Int.reduceGT, Int.reduceGE, Int.reduceNeg, Int.reduceAdd, Int.reduceSub, Nat.reduceMul, Nat.reduceLT, Int.reduceToNat]
        rintro x H3 ⟨rfl, rfl⟩
        cases hf1 : allF (formF r) ks[i] with
        | true =>
          simp -implicitDefEqProofs only [go_sem, Nat.reduceEqDiff, Nat.reduceAdd, Nat.reduceLeDiff, ↓reduceIte, reduceCtorEq, Int.reduceBEq, Int.reduceBNe, Int.reduceLT, Int.reduceLE, Int.reduceGT, Int.reduceGE, Int.reduceNeg, Int.reduceAdd, Int.reduceSub, Nat.reduceMul, Nat.reduceLT, Int.reduceToNat, t6, w3]
          refine ⟨ks.length - (i + 1), by omega, i + 1, rfl, ?_⟩
          and_intros
          all_goals first | omega | assumption | rfl | exact ⟨by rw [new_next]; omega, hx2⟩ | (rw [hr, hdrop]; simp only [allK, hf1, Bool.true_and]) | simp
        | false =>
          simp -implicitDefEqProofs only [go_sem, Nat.reduceEqDiff, Nat.reduceAdd, Nat.reduceLeDiff, ↓reduceIte, reduceCtorEq, Int.reduceBEq, Int.reduceBNe, Int.reduceLT, Int.reduceLE, Int.reduceGT, Int.reduceGE, Int.reduceNeg, Int.reduceAdd, Int.reduceSub, Nat.reduceMul, Nat.reduceLT, Int.reduceToNat]
          refine ⟨?_, hE2⟩
          rw [hres, hr, hdrop]; simp only [allK, hf1, Bool.false_and]
      · have hir : i = ks.length := by omega
        have hltI : ¬ (i : Int) < (ks.length : Int) := by omega
        simp -implicitDefEqProofs only [go_sem, Nat.reduceEqDiff, Nat.reduceAdd, Nat.reduceLeDiff, ↓reduceIte, reduceCtorEq, Int.reduceBEq, Int.reduceBNe, Int.reduceLT, Int.reduceLE, Int.reduceGT, Int.reduceGE, Int.reduceNeg, Int.reduceAdd, Int.reduceSub, Nat.reduceMul, Nat.reduceLT, Int.reduceToNat, t3, t6, hltI]
        refine ⟨?_, hE2⟩
        rw [hres, hr, hir, List.drop_length]
        rfl
  have hform : formF r (.mk f n hid s lv ks) = true := by rw [hform]; simp [e1, e2, e7, e10, e11]
  have hres : allF (formF r) (.mk f n hid s lv ks) = allK (formF r) ks := by simp only [allF, hform, Bool.true_and]
  simp -implicitDefEqProofs only [go_sem, Nat.reduceEqDiff, Nat.reduceAdd, Nat.reduceLeDiff, ↓reduceIte, reduceCtorEq, Int.reduceBEq, Int.reduceBNe, Int.reduceLT, Int.reduceLE, Int.reduceGT, Int.reduceGE, Int.reduceNeg, Int.reduceAdd, Int.reduceSub, Nat.reduceMul, Nat.reduceLT, Int.reduceToNat, w1, w2, h0, hkb, bne_of e1, bne_of e2, bne_of e7, bne_of e10, bne_of e11]
  refine swp_loop (fun k st => ∃ (i : Nat), k = ks.length - i ∧ i ≤ ks.length ∧ st.tm 1 = .ptr H.next 0 ∧ st.tm 3 = aint ks.length ∧ st.tm 6 = aint i ∧ Ext (H.new (.cells [aint f, aint n, abl hid, .v (.string s), lx, kx])) st.heap ∧ allK (formF r) ks = allK (formF r) (ks.drop i)) (k := ks.length) ⟨0, ?_⟩ ?_
  · exact ⟨by omega, by omega, rfl, rfl, rfl, ⟨Nat.le_refl _, fun _ _ => rfl⟩, by simp⟩
  rintro k ⟨tm, H2⟩ ⟨i, rfl, hi, t1, t3, t6, ⟨hx1, hx2⟩, hr⟩
  simp only at t1 t3 t6 hx1 hx2
  rw [new_next] at hx1
  have hb : H2.get H.next = some (.cells [aint f, aint n, abl hid, .v (.string s), lx, kx]) := by
    rw [hx2 H.next (by rw [new_next]; omega), new_get, if_pos rfl]
  have hE2 : Ext H H2 := ⟨by omega, fun b hb' => by rw [hx2 b (by rw [new_next]; omega), new_get, if_neg (by omega)]⟩
  by_cases hlt : i < ks.length
  · obtain ⟨kc, hkc, hle, hld⟩ := hk2.load (List.getElem?_eq_getElem hlt)
    have hix := hk1.aix 6 hlt
    have hdrop : ks.drop i = ks[i] :: ks.drop (i + 1) := List.drop_eq_getElem_cons hlt
    have hltI : (i : Int) < (ks.length : Int) := by omega
    have w3 : IntKind.i64.wrap ((i : Int) + 1) = (i : Int) + 1 := i64_ok _ (by omega)
    simp -implicitDefEqProofs only [go_sem, Nat.reduceEqDiff, Nat.reduceAdd, Nat.reduceLeDiff, ↓reduceIte, reduceCtorEq, Int.reduceBEq, Int.reduceBNe, Int.reduceLT, Int.reduceLE, Int.reduceGT, Int.reduceGE, Int.reduceNeg, Int.reduceAdd, Int.reduceSub, Nat.reduceMul, Nat.reduceLT, Int.reduceToNat, t1, t3, t6, hb, hltI, hix, hle, hld]
    refine i_callA (fs := []) (cs := []) (fid := 87) ?_ ?_ (ih ks[i] (List.getElem_mem hlt) (hallK.mem _ (List.getElem_mem hlt)) _ hkc _) ?_
    · rfl
    · simp -implicitDefEqProofs only [go_sem, Nat.reduceEqDiff, Nat.reduceAdd, Nat.reduceLeDiff, ↓reduceIte, reduceCtorEq, Int.reduceBEq, Int.reduceBNe, Int.reduceLT, Int.reduceLE, Int.reduceGT, Int.reduceGE, Int.reduceNeg, Int.reduceAdd, Int.reduceSub, Nat.reduceMul, Nat.reduceLT, Int.reduceToNat]
    rintro x H3 ⟨rfl, rfl⟩
    cases hf1 : allF (formF r) ks[i] with
    | true =>
      simp -implicitDefEqProofs only [go_sem, Nat.reduceEqDiff, Nat.reduceAdd, Nat.reduceLeDiff, ↓reduceIte, reduceCtorEq, Int.reduceBEq, Int.reduceBNe, Int.reduceLT, Int.reduceLE, Int.reduceGT, Int.reduceGE, Int.reduceNeg, Int.reduceAdd, Int.reduceSub, Nat.reduceMul, Nat.reduceLT, Int.reduceToNat, t6, w3]
      refine ⟨ks.length - (i + 1), by omega, i + 1, rfl, ?_⟩
      and_intros
      all_goals first | omega | assumption | rfl | exact ⟨by rw [new_next]; omega, hx2⟩ | (rw [hr, hdrop]; simp only [allK, hf1, Bool.true_and]) | simp
    | false =>
      simp -implicitDefEqProofs only [go_sem, Nat.reduceEqDiff, Nat.reduceAdd, Nat.reduceLeDiff, ↓reduceIte, reduceCtorEq, Int.reduceBEq, Int.reduceBNe, Int.reduceLT, Int.reduceLE, Int.reduceGT, Int.reduceGE, Int.reduceNeg, Int.reduceAdd, Int.reduceSub, Nat.reduceMul, Nat.reduceLT, Int.reduceToNat]
      refine ⟨?_, hE2⟩
      rw [hres, hr, hdrop]; simp only [allK, hf1, Bool.false_and]
  · have hir : i = ks.length := by omega
    have hltI : ¬ (i : Int) < (ks.length : Int) := by omega
    simp -implicitDefEqProofs only [go_sem, Nat.reduceEqDiff, Nat.reduceAdd, Nat.reduceLeDiff, ↓reduceIte, reduceCtorEq, Int.reduceBEq, Int.reduceBNe, Int.reduceLT, Int.reduceLE, Int.reduceGT, Int.reduceGE, Int.reduceNeg, Int.reduceAdd, Int.reduceSub, Nat.reduceMul, Nat.reduceLT, Int.reduceToNat, t3, t6, hltI]
    refine ⟨?_, hE2⟩
    rw [hres, hr, hir, List.drop_length]
    rfl

end Go.Proofs.Ytooaiddfokbffaa.E

/- The reference's check and size are the code's. Conditions: none. -/
set_option linter.unusedVariables false
set_option linter.unusedSimpArgs false
namespace Go.Proofs.Ytooaiddfokbffaa.E
open Go Go.Proofs
attribute [local go_sem] s_seq s_ops s_draw s_block s_skip s_ret s_exit i_nil i_cons i_run i_runG s_condQ c_true c_false aop ev_t ev_c updO_at updO_no upd_at t_normal t_ret t_exit b_normal b_ret b_exit a_some ac_v ac_agg ac_ptr ac_slc ac_ro ac_rop ac_fn new_next set_next argTm_zero argTm_succ argTm_nil ab_bool ab_uv beq_self_eq_true Option.some_beq_some Bool.not_not beq_iff_eq decide_true decide_false Bool.not_true Bool.not_false afld aload astore apack alen_str alen_ro alen_slc alen_nil new_get set_get ite_true ite_false Option.map_some Option.bind_some ibin isShift Nat.add_zero Nat.zero_add List.length_cons List.length_nil List.drop_zero List.drop_succ_cons List.take_succ_cons List.take_zero if_true if_false setL List.set_cons_zero List.set_cons_succ List.all_cons List.all_nil one_int one_bool one_str one_nil one_ptr one_slc one_ro one_rop one_fn Bool.and_self Bool.and_true true_and and_true and_self Bool.false_eq_true post_ret post_normal resAll resOne packR Option.some.injEq exists_eq_left' List.map_cons List.map_nil List.nil_append List.append_nil List.cons_append d_nil d_cons k_nil k_cons g_op g_same g_new avBlock forall_eq' List.getElem?_cons_succ List.getElem?_cons_zero List.getElem?_nil okind gOk bne false_imp_iff forall_const imp_self implies_true true_imp_iff i_callG

def check2F (r : Lv → Bool) (t : Tm) : Int := if (partT 20000 500 t).1 > 20000 ∨ (partT 20000 500 t).2 > 500 then 2 else if allF (formF r) t = false then 10 else 0
def size2F (r : Lv → Bool) (t : Tm) : Int := if check2F r t = 0 then (partT 20000 500 t).1 else 0

set_option maxRecDepth 100000 in
theorem check2_ok (r : Lv → Bool) (t : Tm) (hall : Tm.All (Fine2 r) t) (cells : List AV) (hT : TmR t cells) (H : AHeap) :
    SCall Try.prog 29 [.agg cells] H fun x H' => x = aint (check2F r t) ∧ H' = H := by
  refine SCall.val (SCall.intro mixed cf29 ?_)
  have hT' := hT
  obtain ⟨lx, kx, ls, cs, rfl, hl1, hl2, hk1, hk2⟩ := hT.six
  simp -implicitDefEqProofs only [c29, go_sem, Nat.reduceEqDiff, Nat.reduceAdd, Nat.reduceLeDiff, ↓reduceIte, reduceCtorEq, Int.reduceBEq, Int.reduceBNe, Int.reduceLT, Int.reduceLE, Int.reduceGT, Int.reduceGE, Int.reduceNeg, Int.reduceAdd, Int.reduceSub, Nat.reduceMul, Nat.reduceLT, Int.reduceToNat, hk1.one, hl1.one, hk1.cells, hl1.cells]
  refine i_callA (fs := []) (cs := []) (fid := 85) ?_ ?_ (part_ok t _ hT' 20000 500 (by omega) (by omega) _) ?_
  · rfl
  · simp -implicitDefEqProofs only [go_sem, Nat.reduceEqDiff, Nat.reduceAdd, Nat.reduceLeDiff, ↓reduceIte, reduceCtorEq, Int.reduceBEq, Int.reduceBNe, Int.reduceLT, Int.reduceLE, Int.reduceGT, Int.reduceGE, Int.reduceNeg, Int.reduceAdd, Int.reduceSub, Nat.reduceMul, Nat.reduceLT, Int.reduceToNat]
  rintro x H3 ⟨rfl, rfl⟩
  by_cases g1 : (partT 20000 500 t).1 > 20000
  · simp -implicitDefEqProofs only [go_sem, Nat.reduceEqDiff, Nat.reduceAdd, Nat.reduceLeDiff, ↓reduceIte, reduceCtorEq, Int.reduceBEq, Int.reduceBNe, Int.reduceLT, Int.reduceLE, Int.reduceGT, Int.reduceGE, Int.reduceNeg, Int.reduceAdd, Int.reduceSub, Nat.reduceMul, Nat.reduceLT, Int.reduceToNat, g1]
    exact ⟨by simp only [check2F, g1, true_or, if_true], ext_new H _⟩
  by_cases g2 : (partT 20000 500 t).2 > 500
  · simp -implicitDefEqProofs only [go_sem, Nat.reduceEqDiff, Nat.reduceAdd, Nat.reduceLeDiff, ↓reduceIte, reduceCtorEq, Int.reduceBEq, Int.reduceBNe, Int.reduceLT, Int.reduceLE, Int.reduceGT, Int.reduceGE, Int.reduceNeg, Int.reduceAdd, Int.reduceSub, Nat.reduceMul, Nat.reduceLT, Int.reduceToNat, g1, g2]
    exact ⟨by simp only [check2F, g2, or_true, if_true], ext_new H _⟩
  simp -implicitDefEqProofs only [go_sem, Nat.reduceEqDiff, Nat.reduceAdd, Nat.reduceLeDiff, ↓reduceIte, reduceCtorEq, Int.reduceBEq, Int.reduceBNe, Int.reduceLT, Int.reduceLE, Int.reduceGT, Int.reduceGE, Int.reduceNeg, Int.reduceAdd, Int.reduceSub, Nat.reduceMul, Nat.reduceLT, Int.reduceToNat, g1, g2]
  refine i_callA (fs := []) (cs := []) (fid := 87) ?_ ?_ (formed2_ok r t hall _ hT' _) ?_
  · rfl
  · simp -implicitDefEqProofs only [go_sem, Nat.reduceEqDiff, Nat.reduceAdd, Nat.reduceLeDiff, ↓reduceIte, reduceCtorEq, Int.reduceBEq, Int.reduceBNe, Int.reduceLT, Int.reduceLE, Int.reduceGT, Int.reduceGE, Int.reduceNeg, Int.reduceAdd, Int.reduceSub, Nat.reduceMul, Nat.reduceLT, Int.reduceToNat]
  rintro x H3 ⟨rfl, rfl⟩
  cases hf : allF (formF r) t with
  | false =>
    simp -implicitDefEqProofs only [go_sem, Nat.reduceEqDiff, Nat.reduceAdd, Nat.reduceLeDiff, ↓reduceIte, reduceCtorEq, Int.reduceBEq, Int.reduceBNe, Int.reduceLT, Int.reduceLE, Int.reduceGT, Int.reduceGE, Int.reduceNeg, Int.reduceAdd, Int.reduceSub, Nat.reduceMul, Nat.reduceLT, Int.reduceToNat]
    exact ⟨by simp only [check2F, g1, g2, hf, or_self, if_false, if_true], ext_new H _⟩
  | true =>
    simp -implicitDefEqProofs only [go_sem, Nat.reduceEqDiff, Nat.reduceAdd, Nat.reduceLeDiff, ↓reduceIte, reduceCtorEq, Int.reduceBEq, Int.reduceBNe, Int.reduceLT, Int.reduceLE, Int.reduceGT, Int.reduceGE, Int.reduceNeg, Int.reduceAdd, Int.reduceSub, Nat.reduceMul, Nat.reduceLT, Int.reduceToNat]
    exact ⟨by simp only [check2F, g1, g2, hf, or_self, if_false, Bool.true_eq_false], ext_new H _⟩

set_option maxRecDepth 100000 in
theorem size2_ok (r : Lv → Bool) (t : Tm) (hall : Tm.All (Fine2 r) t) (cells : List AV) (hT : TmR t cells) (H : AHeap) :
    SCall Try.prog 26 [.agg cells] H fun x H' => x = aint (size2F r t) ∧ H' = H := by
  refine SCall.val (SCall.intro mixed cf26 ?_)
  have hT' := hT
  obtain ⟨lx, kx, ls, cs, rfl, hl1, hl2, hk1, hk2⟩ := hT.six
  simp -implicitDefEqProofs only [c26, go_sem, Nat.reduceEqDiff, Nat.reduceAdd, Nat.reduceLeDiff, ↓reduceIte, reduceCtorEq, Int.reduceBEq, Int.reduceBNe, Int.reduceLT, Int.reduceLE, Int.reduceGT, Int.reduceGE, Int.reduceNeg, Int.reduceAdd, Int.reduceSub, Nat.reduceMul, Nat.reduceLT, Int.reduceToNat, hk1.one, hl1.one, hk1.cells, hl1.cells]
  refine i_callA (fs := []) (cs := []) (fid := 29) ?_ ?_ (check2_ok r t hall _ hT' _) ?_
  · rfl
  · simp -implicitDefEqProofs only [go_sem, Nat.reduceEqDiff, Nat.reduceAdd, Nat.reduceLeDiff, ↓reduceIte, reduceCtorEq, Int.reduceBEq, Int.reduceBNe, Int.reduceLT, Int.reduceLE, Int.reduceGT, Int.reduceGE, Int.reduceNeg, Int.reduceAdd, Int.reduceSub, Nat.reduceMul, Nat.reduceLT, Int.reduceToNat]
  rintro x H3 ⟨rfl, rfl⟩
  by_cases hz : check2F r t = 0
  · rw [hz]
    simp -implicitDefEqProofs only [go_sem, Nat.reduceEqDiff, Nat.reduceAdd, Nat.reduceLeDiff, ↓reduceIte, reduceCtorEq, Int.reduceBEq, Int.reduceBNe, Int.reduceLT, Int.reduceLE, Int.reduceGT, Int.reduceGE, Int.reduceNeg, Int.reduceAdd, Int.reduceSub, Nat.reduceMul, Nat.reduceLT, Int.reduceToNat]
    refine i_callA (fs := []) (cs := []) (fid := 85) ?_ ?_ (part_ok t _ hT' 20000 500 (by omega) (by omega) _) ?_
    · rfl
    · simp -implicitDefEqProofs only [go_sem, Nat.reduceEqDiff, Nat.reduceAdd, Nat.reduceLeDiff, ↓reduceIte, reduceCtorEq, Int.reduceBEq, Int.reduceBNe, Int.reduceLT, Int.reduceLE, Int.reduceGT, Int.reduceGE, Int.reduceNeg, Int.reduceAdd, Int.reduceSub, Nat.reduceMul, Nat.reduceLT, Int.reduceToNat]
    rintro x H3 ⟨rfl, rfl⟩
    simp -implicitDefEqProofs only [go_sem, Nat.reduceEqDiff, Nat.reduceAdd, Nat.reduceLeDiff, ↓reduceIte, reduceCtorEq, Int.reduceBEq, Int.reduceBNe, Int.reduceLT, Int.reduceLE, Int.reduceGT, Int.reduceGE, Int.reduceNeg, Int.reduceAdd, Int.reduceSub, Nat.reduceMul, Nat.reduceLT, Int.reduceToNat]
    exact ⟨by simp only [size2F, hz, if_true], ext_new H _⟩
  · simp -implicitDefEqProofs only [go_sem, Nat.reduceEqDiff, Nat.reduceAdd, Nat.reduceLeDiff, ↓reduceIte, reduceCtorEq, Int.reduceBEq, Int.reduceBNe, Int.reduceLT, Int.reduceLE, Int.reduceGT, Int.reduceGE, Int.reduceNeg, Int.reduceAdd, Int.reduceSub, Nat.reduceMul, Nat.reduceLT, Int.reduceToNat, bne_of hz]
    exact ⟨by simp only [size2F, hz, if_false], ext_new H _⟩

/-! ### The two counts are one -/
theorem fit_part : ∀ t, ∀ c high, 0 ≤ c → 0 ≤ high → ((fitT c high t).1 = true → (fitT c high t).2 = c + (partT (20000 - c) (501 - high) t).1 ∧ (partT (20000 - c) (501 - high) t).1 ≤ 20000 - c ∧ (partT (20000 - c) (501 - high) t).2 ≤ 501 - high) ∧
    ((fitT c high t).1 = false → partT (20000 - c) (501 - high) t = (1073741824, 1073741824)) := by
  refine Tm.rule fun f n hd s lv ks ih c high hc hh => ?_
  simp only [fitT, partT]
  by_cases h1 : c + 1 > 20000 ∨ high > 500
  · rw [if_pos h1, if_pos (by omega)]
    simp
  rw [if_neg h1, if_neg (by omega)]
  have key : ∀ (ks' : List Tm), (∀ k ∈ ks', k ∈ ks) → ∀ n h, 1 ≤ n → n ≤ 20000 - c → 0 ≤ h → h < 501 - high →
      ((fitK (c + n) (high + 1) ks').1 = true → (fitK (c + n) (high + 1) ks').2 = c + (partK (20000 - c) (501 - high) n h ks').1 ∧ (partK (20000 - c) (501 - high) n h ks').1 ≤ 20000 - c ∧ (partK (20000 - c) (501 - high) n h ks').2 ≤ 501 - high) ∧
      ((fitK (c + n) (high + 1) ks').1 = false → partK (20000 - c) (501 - high) n h ks' = (1073741824, 1073741824)) := by
    intro ks'
    induction ks' with
    | nil => intro _ n h k1 k2 k3 k4; simp only [fitK, partK]; simp; omega
    | cons k ks' ih' =>
      intro hm n h k1 k2 k3 k4
      obtain ⟨q1, q2⟩ := ih k (hm k (List.mem_cons_self ..)) (c + n) (high + 1) (by omega) (by omega)
      rw [show 20000 - (c + n) = 20000 - c - n by omega, show 501 - (high + 1) = 501 - high - 1 by omega] at q1 q2
      simp only [fitK, partK]
      obtain ⟨b1, b2, b3, b4⟩ := part_bound k (20000 - c - n) (501 - high - 1) (by omega) (by omega)
      cases hf : (fitT (c + n) (high + 1) k).1 with
      | true =>
        obtain ⟨q3, q4, q5⟩ := q1 hf
        generalize hp : partT (20000 - c - n) (501 - high - 1) k = p at *
        have hno : ¬ (n + p.1 > 20000 - c ∨ (if p.2 > h then p.2 else h) ≥ 501 - high) := by
          by_cases hc2 : p.2 > h
          · rw [if_pos hc2]; omega
          · rw [if_neg hc2]; omega
        rw [if_neg hno]
        simp only [if_true]
        rw [q3, show c + n + p.1 = c + (n + p.1) by omega]
        refine ih' (fun k hk => hm k (List.mem_cons_of_mem _ hk)) _ _ (by omega) (by omega) ?_ ?_
        · by_cases hc2 : p.2 > h
          · rw [if_pos hc2]; omega
          · rw [if_neg hc2]; omega
        · by_cases hc2 : p.2 > h
          · rw [if_pos hc2]; omega
          · rw [if_neg hc2]; omega
      | false =>
        rw [q2 hf]
        have hyes : n + (1073741824 : Int) > 20000 - c ∨ (if (1073741824 : Int) > h then 1073741824 else h) ≥ 501 - high := .inl (by omega)
        simp only
        rw [if_pos hyes]
        simp
  exact key ks (fun _ h => h) 1 0 (by omega) (by omega) (by omega) (by omega)

theorem check_same (r : Lv → Bool) (t : Tm) : check2F r t = checkF r t := by
  obtain ⟨h1, h2⟩ := fit_part t 0 1 (by omega) (by omega)
  rw [show (20000 : Int) - 0 = 20000 by omega, show (501 : Int) - 1 = 500 by omega] at h1 h2
  unfold check2F checkF
  cases hf : (fitT 0 1 t).1 with
  | true =>
    obtain ⟨_, k2, k3⟩ := h1 hf
    rw [if_neg (by omega)]
    simp
  | false =>
    rw [h2 hf]
    simp

theorem size_same (r : Lv → Bool) (t : Tm) : size2F r t = sizeF r t := by
  unfold size2F sizeF
  rw [check_same]
  split
  · rename_i h
    obtain ⟨h1, _⟩ := fit_part t 0 1 (by omega) (by omega)
    rw [show (20000 : Int) - 0 = 20000 by omega, show (501 : Int) - 1 = 500 by omega] at h1
    have := (h1 (check_fit h)).1
    omega
  · rfl

end Go.Proofs.Ytooaiddfokbffaa.E
