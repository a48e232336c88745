/- Texts of the proof, one behind the other. Conditions: none. -/
import Derived.Test.YtooaiddfokbffaaA3
import Derived.Test.YtooaiddfokbffaaRows
import Derived.KernelRfl
/- What a term's check tells, and its size, as the code asks them. Conditions: none. -/
set_option linter.unusedVariables false
set_option linter.unusedSimpArgs false
namespace Go.Proofs.Ytooaiddfokbffaa.E
open Go Go.Proofs
attribute [local go_sem] s_seq s_ops s_draw s_block s_skip s_ret s_exit i_nil i_cons i_run i_runG s_condQ c_true c_false aop ev_t ev_c updO_at updO_no upd_at t_normal t_ret t_exit b_normal b_ret b_exit a_some ac_v ac_agg ac_ptr ac_slc ac_ro ac_rop ac_fn new_next set_next argTm_zero argTm_succ argTm_nil ab_bool ab_uv beq_self_eq_true Option.some_beq_some Bool.not_not beq_iff_eq decide_true decide_false Bool.not_true Bool.not_false afld aload astore apack alen_str alen_ro alen_slc alen_nil new_get set_get ite_true ite_false Option.map_some Option.bind_some ibin isShift Nat.add_zero Nat.zero_add List.length_cons List.length_nil List.drop_zero List.drop_succ_cons List.take_succ_cons List.take_zero if_true if_false setL List.set_cons_zero List.set_cons_succ List.all_cons List.all_nil one_int one_bool one_str one_nil one_ptr one_slc one_ro one_rop one_fn Bool.and_self Bool.and_true true_and and_true and_self Bool.false_eq_true post_ret post_normal resAll resOne packR Option.some.injEq exists_eq_left' List.map_cons List.map_nil List.nil_append List.append_nil List.cons_append d_nil d_cons k_nil k_cons g_op g_same g_new avBlock forall_eq' List.getElem?_cons_succ List.getElem?_cons_zero List.getElem?_nil okind gOk bne false_imp_iff forall_const imp_self implies_true true_imp_iff i_callG

def checkF (r : Lv → Bool) (t : Tm) : Int := if (fitT 0 1 t).1 = false then 2 else if allF (formF r) t = false then 10 else 0

set_option maxRecDepth 100000 in
theorem check_ok (r : Lv → Bool) (t : Tm) (hall : Tm.All (Fine r) t) (cells : List AV) (hT : TmR t cells) (H : AHeap) :
    SCall Try.prog 24 [.agg cells] H fun x H' => x = aint (checkF r t) ∧ H' = H := by
  refine SCall.val (SCall.intro mixed cf24 ?_)
  have hT' := hT
  obtain ⟨lx, kx, ls, cs, rfl, hl1, hl2, hk1, hk2⟩ := hT.six
  have e1 : ¬ H.next = H.next + 1 := by omega
  have e2 : ¬ H.next + 1 = H.next := by omega
  simp -implicitDefEqProofs only [c24, go_sem, Nat.reduceEqDiff, Nat.reduceAdd, Nat.reduceLeDiff, ↓reduceIte, reduceCtorEq, Int.reduceBEq, Int.reduceBNe, Int.reduceLT, Int.reduceLE, Int.reduceGT, Int.reduceGE, Int.reduceNeg, Int.reduceAdd, Int.reduceSub, Nat.reduceMul, Nat.reduceLT, Int.reduceToNat, hk1.one, hl1.one, hk1.cells, hl1.cells, afill, e1, e2]
  refine i_callA (fs := [.ptr (H.next + 1) 0]) (cs := []) (fid := 81) ?_ ?_ (fits_ok t _ hT' 0 1 (by omega) (by omega) _ (H.next + 1) ?_ ?_) ?_
  · rfl
  · simp -implicitDefEqProofs only [go_sem, Nat.reduceEqDiff, Nat.reduceAdd, Nat.reduceLeDiff, ↓reduceIte, reduceCtorEq, Int.reduceBEq, Int.reduceBNe, Int.reduceLT, Int.reduceLE, Int.reduceGT, Int.reduceGE, Int.reduceNeg, Int.reduceAdd, Int.reduceSub, Nat.reduceMul, Nat.reduceLT, Int.reduceToNat]
  · simp -implicitDefEqProofs only [go_sem, Nat.reduceEqDiff, Nat.reduceAdd, Nat.reduceLeDiff, ↓reduceIte, reduceCtorEq, Int.reduceBEq, Int.reduceBNe, Int.reduceLT, Int.reduceLE, Int.reduceGT, Int.reduceGE, Int.reduceNeg, Int.reduceAdd, Int.reduceSub, Nat.reduceMul, Nat.reduceLT, Int.reduceToNat]
  · simp -implicitDefEqProofs only [go_sem, Nat.reduceEqDiff, Nat.reduceAdd, Nat.reduceLeDiff, ↓reduceIte, reduceCtorEq, Int.reduceBEq, Int.reduceBNe, Int.reduceLT, Int.reduceLE, Int.reduceGT, Int.reduceGE, Int.reduceNeg, Int.reduceAdd, Int.reduceSub, Nat.reduceMul, Nat.reduceLT, Int.reduceToNat]; omega
  rintro x H3 ⟨rfl, rfl⟩
  have hE : ∀ o1 o2 o3, Ext H (((H.new o1).new o2).set (H.next + 1) o3) := fun o1 o2 o3 => ⟨by simp -implicitDefEqProofs only [go_sem, Nat.reduceEqDiff, Nat.reduceAdd, Nat.reduceLeDiff, ↓reduceIte, reduceCtorEq, Int.reduceBEq, Int.reduceBNe, Int.reduceLT, Int.reduceLE, Int.reduceGT, Int.reduceGE, Int.reduceNeg, Int.reduceAdd, Int.reduceSub, Nat.reduceMul, Nat.reduceLT, Int.reduceToNat]; omega, fun b hb => by
    have k1 : ¬ b = H.next := by omega
    have k2 : ¬ b = H.next + 1 := by omega
    simp -implicitDefEqProofs only [go_sem, Nat.reduceEqDiff, Nat.reduceAdd, Nat.reduceLeDiff, ↓reduceIte, reduceCtorEq, Int.reduceBEq, Int.reduceBNe, Int.reduceLT, Int.reduceLE, Int.reduceGT, Int.reduceGE, Int.reduceNeg, Int.reduceAdd, Int.reduceSub, Nat.reduceMul, Nat.reduceLT, Int.reduceToNat, k1, k2]⟩
  cases hf : (fitT 0 1 t).1 with
  | false =>
    simp -implicitDefEqProofs only [go_sem, Nat.reduceEqDiff, Nat.reduceAdd, Nat.reduceLeDiff, ↓reduceIte, reduceCtorEq, Int.reduceBEq, Int.reduceBNe, Int.reduceLT, Int.reduceLE, Int.reduceGT, Int.reduceGE, Int.reduceNeg, Int.reduceAdd, Int.reduceSub, Nat.reduceMul, Nat.reduceLT, Int.reduceToNat]
    exact ⟨by simp only [checkF, hf, if_true], hE _ _ _⟩
  | true =>
  simp -implicitDefEqProofs only [go_sem, Nat.reduceEqDiff, Nat.reduceAdd, Nat.reduceLeDiff, ↓reduceIte, reduceCtorEq, Int.reduceBEq, Int.reduceBNe, Int.reduceLT, Int.reduceLE, Int.reduceGT, Int.reduceGE, Int.reduceNeg, Int.reduceAdd, Int.reduceSub, Nat.reduceMul, Nat.reduceLT, Int.reduceToNat, e1, e2]
  refine i_callA (fs := []) (cs := []) (fid := 82) ?_ ?_ (all_ok r t hall _ hT' _) ?_
  · rfl
  · simp -implicitDefEqProofs only [go_sem, Nat.reduceEqDiff, Nat.reduceAdd, Nat.reduceLeDiff, ↓reduceIte, reduceCtorEq, Int.reduceBEq, Int.reduceBNe, Int.reduceLT, Int.reduceLE, Int.reduceGT, Int.reduceGE, Int.reduceNeg, Int.reduceAdd, Int.reduceSub, Nat.reduceMul, Nat.reduceLT, Int.reduceToNat]
  rintro x H3 ⟨rfl, rfl⟩
  cases hg : allF (formF r) t with
  | false =>
    simp -implicitDefEqProofs only [go_sem, Nat.reduceEqDiff, Nat.reduceAdd, Nat.reduceLeDiff, ↓reduceIte, reduceCtorEq, Int.reduceBEq, Int.reduceBNe, Int.reduceLT, Int.reduceLE, Int.reduceGT, Int.reduceGE, Int.reduceNeg, Int.reduceAdd, Int.reduceSub, Nat.reduceMul, Nat.reduceLT, Int.reduceToNat]
    exact ⟨by simp only [checkF, hf, hg, if_true, Bool.true_eq_false, if_false], hE _ _ _⟩
  | true =>
    simp -implicitDefEqProofs only [go_sem, Nat.reduceEqDiff, Nat.reduceAdd, Nat.reduceLeDiff, ↓reduceIte, reduceCtorEq, Int.reduceBEq, Int.reduceBNe, Int.reduceLT, Int.reduceLE, Int.reduceGT, Int.reduceGE, Int.reduceNeg, Int.reduceAdd, Int.reduceSub, Nat.reduceMul, Nat.reduceLT, Int.reduceToNat]
    exact ⟨by simp only [checkF, hf, hg, Bool.true_eq_false, if_false], hE _ _ _⟩

/-! ### Counting -/
mutual
def leftT (c : Int) : Tm → Bool × Int
  | .mk _ _ _ _ _ ks => if c - 1 < 0 then (false, c - 1) else leftK (c - 1) ks
def leftK (c : Int) : List Tm → Bool × Int
  | [] => (true, c)
  | k :: ks => if (leftT c k).1 = true then leftK (leftT c k).2 ks else (false, (leftT c k).2)
end

theorem left_bound : ∀ t, ∀ c, (leftT c t).1 = true → (leftT c t).2 < c ∧ 0 ≤ (leftT c t).2 := by
  refine Tm.rule fun f n hd s lv ks ih c h => ?_
  simp only [leftT] at h ⊢
  split at h
  · cases h
  · rename_i hno
    rw [if_neg hno]
    have hk : ∀ (ks' : List Tm), (∀ k ∈ ks', k ∈ ks) → ∀ c', 0 ≤ c' → (leftK c' ks').1 = true → (leftK c' ks').2 ≤ c' ∧ 0 ≤ (leftK c' ks').2 := by
      intro ks'
      induction ks' with
      | nil => intro _ c' hc' _; simp only [leftK]; omega
      | cons k ks' ih' =>
        intro hm c' hc' h
        simp only [leftK] at h ⊢
        split at h
        · rename_i h1
          rw [if_pos h1]
          obtain ⟨h2, h3⟩ := ih k (hm k (List.mem_cons_self ..)) c' h1
          obtain ⟨h4, h5⟩ := ih' (fun k hk => hm k (List.mem_cons_of_mem _ hk)) _ h3 h
          omega
        · cases h
    obtain ⟨h1, h2⟩ := hk ks (fun _ h => h) (c - 1) (by omega) h
    omega

set_option maxRecDepth 100000 in
theorem count_ok : ∀ t, ∀ (cells : List AV), TmR t cells → ∀ (c : Int), 0 ≤ c ∧ c ≤ 4611686018427387904 → ∀ (H : AHeap) (b : Nat), H.get b = some (.cells [aint c]) → b < H.next →
    SCall Try.prog 130 [.ptr b 0, .agg cells] H fun x H' => x = abl (leftT c t).1 ∧ H' = H.set b (.cells [aint (leftT c t).2]) := by
  refine Tm.rule fun f n hid s lv ks ih cells hT c hc H b hb hbn => ?_
  simp only [TmR] at hT
  obtain ⟨lx, kx, ls, cs, rfl, hlx, hls, hkx, hks⟩ := hT
  have hne : b ≠ H.next := Nat.ne_of_lt hbn
  have hne' : ¬ H.next = b := fun h => hne h.symm
  have w1 : IntKind.i64.wrap (c - 1) = c - 1 := i64_ok _ (by omega)
  have main : SCall Try.prog 130 [.ptr b 0, .agg [aint f, aint n, abl hid, .v (.string s), lx, kx]] H fun x H' => x = abl (leftT c (.mk f n hid s lv ks)).1 ∧ H.next ≤ H'.next ∧
      ∀ b', b' < H.next → H'.get b' = (H.set b (.cells [aint (leftT c (.mk f n hid s lv ks)).2])).get b' := by
    refine SCall.intro mixed cf130 ?_
    by_cases h1 : c - 1 < 0
    · simp -implicitDefEqProofs only [c130, go_sem, Nat.reduceEqDiff, Nat.reduceAdd, Nat.reduceLeDiff, ↓reduceIte, reduceCtorEq, Int.reduceBEq, Int.reduceBNe, Int.reduceLT, Int.reduceLE, Int.reduceGT, Int.reduceGE, Int.reduceNeg, Int.reduceAdd, Int.reduceSub, Nat.reduceMul, Nat.reduceLT, Int.reduceToNat, hb, hne, hne', w1, h1, leftT]
      refine ⟨Nat.le_succ _, fun b' hb' => ?_⟩
      simp only [Nat.ne_of_lt hb', if_false]
    have hlen := fun H => hkx.alen H
    have hone := hkx.one
    have hcl := hkx.cells
    simp -implicitDefEqProofs only [c130, go_sem, Nat.reduceEqDiff, Nat.reduceAdd, Nat.reduceLeDiff, ↓reduceIte, reduceCtorEq, Int.reduceBEq, Int.reduceBNe, Int.reduceLT, Int.reduceLE, Int.reduceGT, Int.reduceGE, Int.reduceNeg, Int.reduceAdd, Int.reduceSub, Nat.reduceMul, Nat.reduceLT, Int.reduceToNat, hb, hne, hne', w1, h1, leftT, hlen, hone, hcl]
    refine swp_loop (fun k st => ∃ (i : Nat) (ci : Int), k = ks.length - i ∧ i ≤ ks.length ∧ (i : Int) + ci ≤ c ∧ 0 ≤ ci ∧ st.tm 0 = .ptr b 0 ∧ st.tm 20 = kx ∧ st.tm 21 = aint ks.length ∧ st.tm 22 = aint i ∧
      H.next ≤ st.heap.next ∧ (∀ b', b' < H.next → st.heap.get b' = if b' = b then some (.cells [aint ci]) else H.get b') ∧ leftK (c - 1) ks = leftK ci (ks.drop i)) (k := ks.length) ⟨0, c - 1, ?_⟩ ?_
    · refine ⟨by omega, by omega, by omega, by omega, ?_, ?_, ?_, ?_, ?_, ?_, by simp⟩
      all_goals simp -implicitDefEqProofs only [go_sem, Nat.reduceEqDiff, Nat.reduceAdd, Nat.reduceLeDiff, ↓reduceIte, reduceCtorEq, Int.reduceBEq, Int.reduceBNe, Int.reduceLT, Int.reduceLE, Int.reduceGT, Int.reduceGE, Int.reduceNeg, Int.reduceAdd, Int.reduceSub, Nat.reduceMul, Nat.reduceLT, Int.reduceToNat]
      · rfl
      · exact Nat.le_succ _
      · intro b' hb'
        simp only [Nat.ne_of_lt hb', if_false]
    rintro k ⟨tm, H2⟩ ⟨i, ci, rfl, hi, hic, hci, h0, h26, h27, h28, hnx, hget, hfit⟩
    simp only at h0 h26 h27 h28 hnx hget
    have hb2 : H2.get b = some (.cells [aint ci]) := by rw [hget b hbn, if_pos rfl]
    by_cases hlt : i < ks.length
    · obtain ⟨kc, hkc, hle, hld⟩ := hks.load (List.getElem?_eq_getElem hlt)
      have hix := hkx.aix 6 hlt
      have hdrop : ks.drop i = ks[i] :: ks.drop (i + 1) := List.drop_eq_getElem_cons hlt
      obtain ⟨lx1, kx1, ls1, cs1, hkc6, hl1, hl2, hl3, hl4⟩ := hkc.six
      have hltI : (i : Int) < (ks.length : Int) := by omega
      have w3 : IntKind.i64.wrap ((i : Int) + 1) = (i : Int) + 1 := i64_ok _ (by omega)
      subst hkc6
      simp -implicitDefEqProofs only [go_sem, Nat.reduceEqDiff, Nat.reduceAdd, Nat.reduceLeDiff, ↓reduceIte, reduceCtorEq, Int.reduceBEq, Int.reduceBNe, Int.reduceLT, Int.reduceLE, Int.reduceGT, Int.reduceGE, Int.reduceNeg, Int.reduceAdd, Int.reduceSub, Nat.reduceMul, Nat.reduceLT, Int.reduceToNat, h0, h26, h27, h28, hltI, hix, hle, hld, hl1.one, hl3.one, hl1.cells, hl3.cells]
      have hbh : b < H2.next := by omega
      have hbe : ¬ b = H2.next := by omega
      refine i_callA (fs := []) (cs := []) ?_ ?_ (ih ks[i] (List.getElem_mem hlt) _ hkc ci (by omega) _ b ?_ ?_) ?_
      · rfl
      · simp -implicitDefEqProofs only [go_sem, Nat.reduceEqDiff, Nat.reduceAdd, Nat.reduceLeDiff, ↓reduceIte, reduceCtorEq, Int.reduceBEq, Int.reduceBNe, Int.reduceLT, Int.reduceLE, Int.reduceGT, Int.reduceGE, Int.reduceNeg, Int.reduceAdd, Int.reduceSub, Nat.reduceMul, Nat.reduceLT, Int.reduceToNat, h0]
      · simp only [set_get, new_get, hbe, if_false, hb2]
      · rw [set_next, new_next]; omega
      · rintro x H3 ⟨rfl, rfl⟩
        cases hf1 : (leftT ci ks[i]).1 with
        | true =>
          obtain ⟨hb3, hb4⟩ := left_bound _ _ hf1
          simp -implicitDefEqProofs only [go_sem, Nat.reduceEqDiff, Nat.reduceAdd, Nat.reduceLeDiff, ↓reduceIte, reduceCtorEq, Int.reduceBEq, Int.reduceBNe, Int.reduceLT, Int.reduceLE, Int.reduceGT, Int.reduceGE, Int.reduceNeg, Int.reduceAdd, Int.reduceSub, Nat.reduceMul, Nat.reduceLT, Int.reduceToNat, h28, w3]
          refine ⟨ks.length - (i + 1), by omega, i + 1, (leftT ci ks[i]).2, rfl, by omega, by omega, hb4, h0, h26, h27, by simp, by omega, fun b' hb' => ?_, ?_⟩
          · have e1 : ¬ b' = H2.next := by omega
            simp only [e1, if_false]
            by_cases e2 : b' = b
            · rw [if_pos e2, if_pos e2]
            · rw [if_neg e2, if_neg e2, hget b' hb', if_neg e2]
          · rw [hfit, hdrop]
            simp only [leftK, hf1, if_true]
        | false =>
          simp -implicitDefEqProofs only [go_sem, Nat.reduceEqDiff, Nat.reduceAdd, Nat.reduceLeDiff, ↓reduceIte, reduceCtorEq, Int.reduceBEq, Int.reduceBNe, Int.reduceLT, Int.reduceLE, Int.reduceGT, Int.reduceGE, Int.reduceNeg, Int.reduceAdd, Int.reduceSub, Nat.reduceMul, Nat.reduceLT, Int.reduceToNat]
          have hr : leftK (c - 1) ks = (false, (leftT ci ks[i]).2) := by
            rw [hfit, hdrop]
            simp only [leftK, hf1, Bool.false_eq_true, if_false]
          rw [hr]
          refine ⟨rfl, by omega, fun b' hb' => ?_⟩
          have e1 : ¬ b' = H2.next := by omega
          simp only [e1, if_false]
          by_cases e2 : b' = b
          · rw [if_pos e2, if_pos e2]
          · rw [if_neg e2, if_neg e2, hget b' hb', if_neg e2]
    · have hir : i = ks.length := by omega
      have hltI : ¬ (i : Int) < (ks.length : Int) := by omega
      have hr : leftK (c - 1) ks = (true, ci) := by
        rw [hfit, hir, List.drop_length]
        rfl
      simp -implicitDefEqProofs only [go_sem, Nat.reduceEqDiff, Nat.reduceAdd, Nat.reduceLeDiff, ↓reduceIte, reduceCtorEq, Int.reduceBEq, Int.reduceBNe, Int.reduceLT, Int.reduceLE, Int.reduceGT, Int.reduceGE, Int.reduceNeg, Int.reduceAdd, Int.reduceSub, Nat.reduceMul, Nat.reduceLT, Int.reduceToNat, h27, h28, hltI, hr]
      exact ⟨hnx, fun b' hb' => hget b' hb'⟩
  refine (main.cutTo (H.set b (.cells [aint (leftT c (.mk f n hid s lv ks)).2])) rfl ?_ ?_).mono ?_
  · intro hw b' o hg
    rw [set_get] at hg
    split at hg
    · rename_i hbb; rw [hbb]; exact hbn
    · exact hw b' o hg
  · rintro _ x H' ⟨rfl, h1, h2⟩
    refine ⟨h1, .v _, h2, fun b' hb' o hg => ?_⟩
    rw [set_get] at hg
    split at hg
    · injection hg with hg
      subst hg
      exact .inr (.cells _ fun x hx => by simp only [List.mem_cons, List.not_mem_nil, or_false] at hx; subst hx; exact .v _)
    · exact .inl hg
  · rintro x H' ⟨⟨_, rfl, _⟩, rfl⟩
    exact ⟨rfl, rfl⟩

/-- raw.Size at the greatest size. -/
def rawSizeF (t : Tm) : Int := 20001 - (if (leftT 20001 t).2 > 0 then (leftT 20001 t).2 else 0)

set_option maxRecDepth 100000 in
theorem rawSize_ok (t : Tm) (cells : List AV) (hT : TmR t cells) (hL : (leftT 20001 t).1 = true) (H : AHeap) :
    SCall Try.prog 86 [.agg cells, aint 20000] H fun x H' => x = aint (20001 - (leftT 20001 t).2) ∧ H' = H := by
  obtain ⟨hb1, hb2⟩ := left_bound _ _ hL
  refine SCall.val (SCall.intro mixed cf86 ?_)
  have hT' := hT
  obtain ⟨lx, kx, ls, cs, rfl, hl1, hl2, hk1, hk2⟩ := hT.six
  have e1 : ¬ H.next = H.next + 1 := by omega
  have e2 : ¬ H.next + 1 = H.next := by omega
  have w1 : IntKind.i64.wrap 20001 = 20001 := i64_ok _ (by omega)
  have w2 : IntKind.i64.wrap (20001 - (leftT 20001 t).2) = 20001 - (leftT 20001 t).2 := i64_ok _ (by omega)
  have w3 : (if (leftT 20001 t).2 > 0 then (leftT 20001 t).2 else 0) = (leftT 20001 t).2 := by split <;> omega
  simp -implicitDefEqProofs only [c86, go_sem, Nat.reduceEqDiff, Nat.reduceAdd, Nat.reduceLeDiff, ↓reduceIte, reduceCtorEq, Int.reduceBEq, Int.reduceBNe, Int.reduceLT, Int.reduceLE, Int.reduceGT, Int.reduceGE, Int.reduceNeg, Int.reduceAdd, Int.reduceSub, Nat.reduceMul, Nat.reduceLT, Int.reduceToNat, hk1.one, hl1.one, hk1.cells, hl1.cells, afill, e1, e2, w1]
  refine i_callA (fs := []) (cs := []) (fid := 130) ?_ ?_ (count_ok t _ hT' 20001 (by omega) _ (H.next + 1) ?_ ?_) ?_
  · rfl
  · simp -implicitDefEqProofs only [go_sem, Nat.reduceEqDiff, Nat.reduceAdd, Nat.reduceLeDiff, ↓reduceIte, reduceCtorEq, Int.reduceBEq, Int.reduceBNe, Int.reduceLT, Int.reduceLE, Int.reduceGT, Int.reduceGE, Int.reduceNeg, Int.reduceAdd, Int.reduceSub, Nat.reduceMul, Nat.reduceLT, Int.reduceToNat]
  · simp -implicitDefEqProofs only [go_sem, Nat.reduceEqDiff, Nat.reduceAdd, Nat.reduceLeDiff, ↓reduceIte, reduceCtorEq, Int.reduceBEq, Int.reduceBNe, Int.reduceLT, Int.reduceLE, Int.reduceGT, Int.reduceGE, Int.reduceNeg, Int.reduceAdd, Int.reduceSub, Nat.reduceMul, Nat.reduceLT, Int.reduceToNat]
  · simp -implicitDefEqProofs only [go_sem, Nat.reduceEqDiff, Nat.reduceAdd, Nat.reduceLeDiff, ↓reduceIte, reduceCtorEq, Int.reduceBEq, Int.reduceBNe, Int.reduceLT, Int.reduceLE, Int.reduceGT, Int.reduceGE, Int.reduceNeg, Int.reduceAdd, Int.reduceSub, Nat.reduceMul, Nat.reduceLT, Int.reduceToNat]; omega
  rintro x H3 ⟨rfl, rfl⟩
  simp -implicitDefEqProofs only [go_sem, Nat.reduceEqDiff, Nat.reduceAdd, Nat.reduceLeDiff, ↓reduceIte, reduceCtorEq, Int.reduceBEq, Int.reduceBNe, Int.reduceLT, Int.reduceLE, Int.reduceGT, Int.reduceGE, Int.reduceNeg, Int.reduceAdd, Int.reduceSub, Nat.reduceMul, Nat.reduceLT, Int.reduceToNat, amm, w1, w3, w2]
  refine ⟨by simp -implicitDefEqProofs only [go_sem, Nat.reduceEqDiff, Nat.reduceAdd, Nat.reduceLeDiff, ↓reduceIte, reduceCtorEq, Int.reduceBEq, Int.reduceBNe, Int.reduceLT, Int.reduceLE, Int.reduceGT, Int.reduceGE, Int.reduceNeg, Int.reduceAdd, Int.reduceSub, Nat.reduceMul, Nat.reduceLT, Int.reduceToNat]; omega, fun b hb => ?_⟩
  have k1 : ¬ b = H.next := by omega
  have k2 : ¬ b = H.next + 1 := by omega
  simp -implicitDefEqProofs only [go_sem, Nat.reduceEqDiff, Nat.reduceAdd, Nat.reduceLeDiff, ↓reduceIte, reduceCtorEq, Int.reduceBEq, Int.reduceBNe, Int.reduceLT, Int.reduceLE, Int.reduceGT, Int.reduceGE, Int.reduceNeg, Int.reduceAdd, Int.reduceSub, Nat.reduceMul, Nat.reduceLT, Int.reduceToNat, k1, k2]

end Go.Proofs.Ytooaiddfokbffaa.E

/- The size of a term, as the code and the reference tell it. Conditions: none. -/
set_option linter.unusedVariables false
set_option linter.unusedSimpArgs false
namespace Go.Proofs.Ytooaiddfokbffaa.E
open Go Go.Proofs
attribute [local go_sem] s_seq s_ops s_draw s_block s_skip s_ret s_exit i_nil i_cons i_run i_runG s_condQ c_true c_false aop ev_t ev_c updO_at updO_no upd_at t_normal t_ret t_exit b_normal b_ret b_exit a_some ac_v ac_agg ac_ptr ac_slc ac_ro ac_rop ac_fn new_next set_next argTm_zero argTm_succ argTm_nil ab_bool ab_uv beq_self_eq_true Option.some_beq_some Bool.not_not beq_iff_eq decide_true decide_false Bool.not_true Bool.not_false afld aload astore apack alen_str alen_ro alen_slc alen_nil new_get set_get ite_true ite_false Option.map_some Option.bind_some ibin isShift Nat.add_zero Nat.zero_add List.length_cons List.length_nil List.drop_zero List.drop_succ_cons List.take_succ_cons List.take_zero if_true if_false setL List.set_cons_zero List.set_cons_succ List.all_cons List.all_nil one_int one_bool one_str one_nil one_ptr one_slc one_ro one_rop one_fn Bool.and_self Bool.and_true true_and and_true and_self Bool.false_eq_true post_ret post_normal resAll resOne packR Option.some.injEq exists_eq_left' List.map_cons List.map_nil List.nil_append List.append_nil List.cons_append d_nil d_cons k_nil k_cons g_op g_same g_new avBlock forall_eq' List.getElem?_cons_succ List.getElem?_cons_zero List.getElem?_nil okind gOk bne false_imp_iff forall_const imp_self implies_true true_imp_iff i_callG

/-- What fits is counted. -/
theorem fit_left : ∀ t, ∀ c high, (fitT c high t).1 = true → ∀ L, 20001 - c ≤ L → leftT L t = (true, L - ((fitT c high t).2 - c)) := by
  refine Tm.rule fun f n hd s lv ks ih c high h L hL => ?_
  simp only [fitT] at h ⊢
  simp only [leftT]
  split at h
  · cases h
  · rename_i hno
    rw [if_neg hno, if_neg (by omega)]
    have hk : ∀ (ks' : List Tm), (∀ k ∈ ks', k ∈ ks) → ∀ c' L', c' ≤ 20000 → 20001 - c' ≤ L' → (fitK c' (high + 1) ks').1 = true → leftK L' ks' = (true, L' - ((fitK c' (high + 1) ks').2 - c')) := by
      intro ks'
      induction ks' with
      | nil => intro _ c' L' _ _ _; simp only [leftK, fitK]; simp
      | cons k ks' ih' =>
        intro hm c' L' hc' hL' h
        simp only [fitK] at h ⊢
        simp only [leftK]
        split at h
        · rename_i h1
          obtain ⟨h2, h3⟩ := fit_bound _ _ _ h1
          have h4 := ih k (hm k (List.mem_cons_self ..)) c' (high + 1) h1 L' hL'
          rw [if_pos h1, h4]
          simp only [if_true]
          rw [ih' (fun k hk => hm k (List.mem_cons_of_mem _ hk)) _ _ h3 (by omega) h]
          congr 1
          omega
        · cases h
    rw [hk ks (fun _ h => h) (c + 1) (L - 1) (by omega) (by omega) h]
    congr 1
    omega

def sizeF (r : Lv → Bool) (t : Tm) : Int := if checkF r t = 0 then (fitT 0 1 t).2 else 0

theorem check_fit {r : Lv → Bool} {t : Tm} (h : checkF r t = 0) : (fitT 0 1 t).1 = true := by
  unfold checkF at h
  cases hf : (fitT 0 1 t).1 with
  | true => rfl
  | false => rw [hf] at h; simp at h

set_option maxRecDepth 100000 in
theorem size_ok (r : Lv → Bool) (t : Tm) (hall : Tm.All (Fine r) t) (cells : List AV) (hT : TmR t cells) (H : AHeap) :
    SCall Try.prog 27 [.agg cells] H fun x H' => x = aint (sizeF r t) ∧ H' = H := by
  refine SCall.val (SCall.intro mixed cf27 ?_)
  have hT' := hT
  obtain ⟨lx, kx, ls, cs, rfl, hl1, hl2, hk1, hk2⟩ := hT.six
  simp -implicitDefEqProofs only [c27, go_sem, Nat.reduceEqDiff, Nat.reduceAdd, Nat.reduceLeDiff, ↓reduceIte, reduceCtorEq, Int.reduceBEq, Int.reduceBNe, Int.reduceLT, Int.reduceLE, Int.reduceGT, Int.reduceGE, Int.reduceNeg, Int.reduceAdd, Int.reduceSub, Nat.reduceMul, Nat.reduceLT, Int.reduceToNat, hk1.one, hl1.one, hk1.cells, hl1.cells]
  refine i_callA (fs := []) (cs := []) (fid := 24) ?_ ?_ (check_ok r t hall _ hT' _) ?_
  · rfl
  · simp -implicitDefEqProofs only [go_sem, Nat.reduceEqDiff, Nat.reduceAdd, Nat.reduceLeDiff, ↓reduceIte, reduceCtorEq, Int.reduceBEq, Int.reduceBNe, Int.reduceLT, Int.reduceLE, Int.reduceGT, Int.reduceGE, Int.reduceNeg, Int.reduceAdd, Int.reduceSub, Nat.reduceMul, Nat.reduceLT, Int.reduceToNat]
  rintro x H3 ⟨rfl, rfl⟩
  by_cases hz : checkF r t = 0
  · have hfit := check_fit hz
    have hleft := fit_left t 0 1 hfit 20001 (by omega)
    have hl : (leftT 20001 t).1 = true := by rw [hleft]
    have hs : 20001 - (leftT 20001 t).2 = (fitT 0 1 t).2 := by rw [hleft]; simp only; omega
    rw [hz]
    simp -implicitDefEqProofs only [go_sem, Nat.reduceEqDiff, Nat.reduceAdd, Nat.reduceLeDiff, ↓reduceIte, reduceCtorEq, Int.reduceBEq, Int.reduceBNe, Int.reduceLT, Int.reduceLE, Int.reduceGT, Int.reduceGE, Int.reduceNeg, Int.reduceAdd, Int.reduceSub, Nat.reduceMul, Nat.reduceLT, Int.reduceToNat]
    refine i_callA (fs := []) (cs := []) (fid := 86) ?_ ?_ (rawSize_ok t _ hT' hl _) ?_
    · rfl
    · simp -implicitDefEqProofs only [go_sem, Nat.reduceEqDiff, Nat.reduceAdd, Nat.reduceLeDiff, ↓reduceIte, reduceCtorEq, Int.reduceBEq, Int.reduceBNe, Int.reduceLT, Int.reduceLE, Int.reduceGT, Int.reduceGE, Int.reduceNeg, Int.reduceAdd, Int.reduceSub, Nat.reduceMul, Nat.reduceLT, Int.reduceToNat]
    rintro x H3 ⟨rfl, rfl⟩
    simp -implicitDefEqProofs only [go_sem, Nat.reduceEqDiff, Nat.reduceAdd, Nat.reduceLeDiff, ↓reduceIte, reduceCtorEq, Int.reduceBEq, Int.reduceBNe, Int.reduceLT, Int.reduceLE, Int.reduceGT, Int.reduceGE, Int.reduceNeg, Int.reduceAdd, Int.reduceSub, Nat.reduceMul, Nat.reduceLT, Int.reduceToNat, hs]
    exact ⟨by simp only [sizeF, hz, if_true], ext_new H _⟩
  · simp -implicitDefEqProofs only [go_sem, Nat.reduceEqDiff, Nat.reduceAdd, Nat.reduceLeDiff, ↓reduceIte, reduceCtorEq, Int.reduceBEq, Int.reduceBNe, Int.reduceLT, Int.reduceLE, Int.reduceGT, Int.reduceGE, Int.reduceNeg, Int.reduceAdd, Int.reduceSub, Nat.reduceMul, Nat.reduceLT, Int.reduceToNat, bne_of hz]
    exact ⟨by simp only [sizeF, hz, if_false], ext_new H _⟩

/-! ### The reference's count -/
mutual
def partT (left high : Int) : Tm → Int × Int
  | .mk _ _ _ _ _ ks => if left < 1 ∨ high < 1 then (1073741824, 1073741824) else partK left high 1 0 ks
def partK (left high n h : Int) : List Tm → Int × Int
  | [] => (n, h + 1)
  | k :: ks =>
    if n + (partT (left - n) (high - 1) k).1 > left ∨ (if (partT (left - n) (high - 1) k).2 > h then (partT (left - n) (high - 1) k).2 else h) ≥ high then (1073741824, 1073741824)
    else partK left high (n + (partT (left - n) (high - 1) k).1) (if (partT (left - n) (high - 1) k).2 > h then (partT (left - n) (high - 1) k).2 else h) ks
end

theorem part_bound : ∀ t, ∀ left high, left ≤ 1073741824 → high ≤ 1073741824 → 1 ≤ (partT left high t).1 ∧ (partT left high t).1 ≤ 1073741824 ∧ 1 ≤ (partT left high t).2 ∧ (partT left high t).2 ≤ 1073741824 := by
  refine Tm.rule fun f n hd s lv ks ih left high hl hh => ?_
  simp only [partT]
  split
  · simp
  · rename_i hno
    have hk : ∀ (ks' : List Tm), (∀ k ∈ ks', k ∈ ks) → ∀ n h, 1 ≤ n → n ≤ left → 0 ≤ h → h < high → 1 ≤ (partK left high n h ks').1 ∧ (partK left high n h ks').1 ≤ 1073741824 ∧ 1 ≤ (partK left high n h ks').2 ∧ (partK left high n h ks').2 ≤ 1073741824 := by
      intro ks'
      induction ks' with
      | nil => intro _ n h h1 h2 h3 h4; simp only [partK]; omega
      | cons k ks' ih' =>
        intro hm n h h1 h2 h3 h4
        simp only [partK]
        obtain ⟨k1, k2, k3, k4⟩ := ih k (hm k (List.mem_cons_self ..)) (left - n) (high - 1) (by omega) (by omega)
        generalize partT (left - n) (high - 1) k = p at *
        by_cases hc : n + p.1 > left ∨ (if p.2 > h then p.2 else h) ≥ high
        · rw [if_pos hc]; simp
        · rw [if_neg hc]
          refine ih' (fun k hk => hm k (List.mem_cons_of_mem _ hk)) _ _ (by omega) (by omega) ?_ (by omega)
          by_cases hc2 : p.2 > h
          · rw [if_pos hc2]; omega
          · rw [if_neg hc2]; omega
    exact hk ks (fun _ h => h) 1 0 (by omega) (by omega) (by omega) (by omega)

set_option maxRecDepth 100000 in
theorem part_ok : ∀ t, ∀ (cells : List AV), TmR t cells → ∀ (left high : Int), -1073741824 ≤ left ∧ left ≤ 1073741824 → -1073741824 ≤ high ∧ high ≤ 1073741824 → ∀ (H : AHeap),
    SCall Try.prog 85 [.agg cells, aint left, aint high] H fun x H' => x = .tup [aint (partT left high t).1, aint (partT left high t).2] ∧ H' = H := by
  refine Tm.rule fun f n hid s lv ks ih cells hT left high hl hh H => ?_
  simp only [TmR] at hT
  obtain ⟨lx, kx, ls, cs, rfl, hlx, hls, hkx, hks⟩ := hT
  refine SCall.valO (.tup _ fun x hx => by simp only [List.mem_cons, List.not_mem_nil, or_false] at hx; rcases hx with rfl | rfl <;> exact .v _) (SCall.intro mixed cf85 ?_)
  by_cases h1 : left < 1
  · simp -implicitDefEqProofs only [c85, go_sem, Nat.reduceEqDiff, Nat.reduceAdd, Nat.reduceLeDiff, ↓reduceIte, reduceCtorEq, Int.reduceBEq, Int.reduceBNe, Int.reduceLT, Int.reduceLE, Int.reduceGT, Int.reduceGE, Int.reduceNeg, Int.reduceAdd, Int.reduceSub, Nat.reduceMul, Nat.reduceLT, Int.reduceToNat, h1, partT, true_or]
    exact ext_new H _
  by_cases h2 : high < 1
  · simp -implicitDefEqProofs only [c85, go_sem, Nat.reduceEqDiff, Nat.reduceAdd, Nat.reduceLeDiff, ↓reduceIte, reduceCtorEq, Int.reduceBEq, Int.reduceBNe, Int.reduceLT, Int.reduceLE, Int.reduceGT, Int.reduceGE, Int.reduceNeg, Int.reduceAdd, Int.reduceSub, Nat.reduceMul, Nat.reduceLT, Int.reduceToNat, h1, h2, partT, or_true]
    exact ext_new H _
  have hlen := fun H => hkx.alen H
  have hone := hkx.one
  have hcl := hkx.cells
  simp -implicitDefEqProofs only [c85, go_sem, Nat.reduceEqDiff, Nat.reduceAdd, Nat.reduceLeDiff, ↓reduceIte, reduceCtorEq, Int.reduceBEq, Int.reduceBNe, Int.reduceLT, Int.reduceLE, Int.reduceGT, Int.reduceGE, Int.reduceNeg, Int.reduceAdd, Int.reduceSub, Nat.reduceMul, Nat.reduceLT, Int.reduceToNat, h1, h2, partT, or_self]
  refine swp_loop (fun k st => ∃ (i : Nat) (n' h' : Int), k = ks.length - i ∧ i ≤ ks.length ∧ (i : Int) + 1 ≤ n' ∧ n' ≤ left ∧ 0 ≤ h' ∧ h' < high ∧ st.tm 1 = aint left ∧ st.tm 2 = aint high ∧ st.tm 3 = .ptr H.next 0 ∧ st.tm 8 = aint n' ∧ st.tm 9 = aint h' ∧ st.tm 10 = aint i ∧
    Ext (H.new (.cells [aint f, aint n, abl hid, .v (.string s), lx, kx])) st.heap ∧ partK left high 1 0 ks = partK left high n' h' (ks.drop i)) (k := ks.length) ⟨0, 1, 0, ?_⟩ ?_
  · exact ⟨by omega, by omega, by omega, by omega, by omega, by omega, rfl, rfl, rfl, rfl, rfl, rfl, ⟨Nat.le_refl _, fun _ _ => rfl⟩, by simp⟩
  rintro k ⟨tm, H2⟩ ⟨i, n', h', rfl, hi, hin, hnl, hh0, hhh, t1, t2, t3, t8, t9, t10, ⟨hx1, hx2⟩, hfit⟩
  simp only at t1 t2 t3 t8 t9 t10 hx1 hx2
  rw [new_next] at hx1
  have hb : H2.get H.next = some (.cells [aint f, aint n, abl hid, .v (.string s), lx, kx]) := by
    rw [hx2 H.next (by rw [new_next]; omega), new_get, if_pos rfl]
  have hE : Ext H H2 := ⟨by omega, fun b hb' => by rw [hx2 b (by rw [new_next]; omega), new_get, if_neg (by omega)]⟩
  by_cases hlt : i < ks.length
  · obtain ⟨kc, hkc, hle, hld⟩ := hks.load (List.getElem?_eq_getElem hlt)
    have hix := hkx.aix 6 hlt
    have hdrop : ks.drop i = ks[i] :: ks.drop (i + 1) := List.drop_eq_getElem_cons hlt
    have hltI : (i : Int) < (ks.length : Int) := by omega
    have w1 : IntKind.i64.wrap (left - n') = left - n' := i64_ok _ (by omega)
    have w2 : IntKind.i64.wrap (high - 1) = high - 1 := i64_ok _ (by omega)
    have w3 : IntKind.i64.wrap ((i : Int) + 1) = (i : Int) + 1 := i64_ok _ (by omega)
    simp -implicitDefEqProofs only [go_sem, Nat.reduceEqDiff, Nat.reduceAdd, Nat.reduceLeDiff, ↓reduceIte, reduceCtorEq, Int.reduceBEq, Int.reduceBNe, Int.reduceLT, Int.reduceLE, Int.reduceGT, Int.reduceGE, Int.reduceNeg, Int.reduceAdd, Int.reduceSub, Nat.reduceMul, Nat.reduceLT, Int.reduceToNat, t1, t2, t3, t8, t9, t10, hb, hlen, hltI, hix, hle, hld, w1, w2]
    refine i_callA (fs := []) (cs := []) (fid := 85) ?_ ?_ (ih ks[i] (List.getElem_mem hlt) _ hkc (left - n') (high - 1) (by omega) (by omega) _) ?_
    · rfl
    · simp -implicitDefEqProofs only [go_sem, Nat.reduceEqDiff, Nat.reduceAdd, Nat.reduceLeDiff, ↓reduceIte, reduceCtorEq, Int.reduceBEq, Int.reduceBNe, Int.reduceLT, Int.reduceLE, Int.reduceGT, Int.reduceGE, Int.reduceNeg, Int.reduceAdd, Int.reduceSub, Nat.reduceMul, Nat.reduceLT, Int.reduceToNat]
    rintro x H3 ⟨rfl, rfl⟩
    obtain ⟨b1, b2, b3, b4⟩ := part_bound ks[i] (left - n') (high - 1) (by omega) (by omega)
    generalize hp : partT (left - n') (high - 1) ks[i] = p at *
    obtain ⟨pa, pb⟩ := p
    simp only at b1 b2 b3 b4
    have w4 : IntKind.i64.wrap (n' + pa) = n' + pa := i64_ok _ (by omega)
    have hstep : partK left high n' h' (ks.drop i) = if n' + pa > left ∨ (if pb > h' then pb else h') ≥ high then (1073741824, 1073741824) else partK left high (n' + pa) (if pb > h' then pb else h') (ks.drop (i + 1)) := by
      rw [hdrop]
      simp only [partK, hp]
    rw [hfit, hstep]
    by_cases g1 : pb > h'
    · by_cases g2 : n' + pa > left
      · simp -implicitDefEqProofs only [go_sem, Nat.reduceEqDiff, Nat.reduceAdd, Nat.reduceLeDiff, ↓reduceIte, reduceCtorEq, Int.reduceBEq, Int.reduceBNe, Int.reduceLT, Int.reduceLE, Int.reduceGT, Int.reduceGE, Int.reduceNeg, Int.reduceAdd, Int.reduceSub, Nat.reduceMul, Nat.reduceLT, Int.reduceToNat, t1, t2, t8, t9, t10, w4, g1, g2]
        exact ⟨by simp, hE⟩
      · by_cases g3 : pb ≥ high
        · simp -implicitDefEqProofs only [go_sem, Nat.reduceEqDiff, Nat.reduceAdd, Nat.reduceLeDiff, ↓reduceIte, reduceCtorEq, Int.reduceBEq, Int.reduceBNe, Int.reduceLT, Int.reduceLE, Int.reduceGT, Int.reduceGE, Int.reduceNeg, Int.reduceAdd, Int.reduceSub, Nat.reduceMul, Nat.reduceLT, Int.reduceToNat, t1, t2, t8, t9, t10, w4, g1, g2, g3]
          exact ⟨by simp, hE⟩
        · simp -implicitDefEqProofs only [go_sem, Nat.reduceEqDiff, Nat.reduceAdd, Nat.reduceLeDiff, ↓reduceIte, reduceCtorEq, Int.reduceBEq, Int.reduceBNe, Int.reduceLT, Int.reduceLE, Int.reduceGT, Int.reduceGE, Int.reduceNeg, Int.reduceAdd, Int.reduceSub, Nat.reduceMul, Nat.reduceLT, Int.reduceToNat, t1, t2, t8, t9, t10, w4, g1, g2, g3, w3]
          refine ⟨ks.length - (i + 1), by omega, i + 1, n' + pa, pb, rfl, ?_⟩
          and_intros
          all_goals first | omega | assumption | rfl | exact ⟨by rw [new_next]; omega, hx2⟩ | simp [g1, g2, g3]
    · by_cases g2 : n' + pa > left
      · simp -implicitDefEqProofs only [go_sem, Nat.reduceEqDiff, Nat.reduceAdd, Nat.reduceLeDiff, ↓reduceIte, reduceCtorEq, Int.reduceBEq, Int.reduceBNe, Int.reduceLT, Int.reduceLE, Int.reduceGT, Int.reduceGE, Int.reduceNeg, Int.reduceAdd, Int.reduceSub, Nat.reduceMul, Nat.reduceLT, Int.reduceToNat, t1, t2, t8, t9, t10, w4, g1, g2]
        exact ⟨by simp, hE⟩
      · have g3 : ¬ h' ≥ high := by omega
        simp -implicitDefEqProofs only [go_sem, Nat.reduceEqDiff, Nat.reduceAdd, Nat.reduceLeDiff, ↓reduceIte, reduceCtorEq, Int.reduceBEq, Int.reduceBNe, Int.reduceLT, Int.reduceLE, Int.reduceGT, Int.reduceGE, Int.reduceNeg, Int.reduceAdd, Int.reduceSub, Nat.reduceMul, Nat.reduceLT, Int.reduceToNat, t1, t2, t8, t9, t10, w4, g1, g2, g3, w3]
        refine ⟨ks.length - (i + 1), by omega, i + 1, n' + pa, h', rfl, ?_⟩
        and_intros
        all_goals first | omega | assumption | rfl | exact ⟨by rw [new_next]; omega, hx2⟩ | simp [g1, g2, g3]
  · have hir : i = ks.length := by omega
    have hltI : ¬ (i : Int) < (ks.length : Int) := by omega
    have w5 : IntKind.i64.wrap (h' + 1) = h' + 1 := i64_ok _ (by omega)
    have hr : partK left high 1 0 ks = (n', h' + 1) := by
      rw [hfit, hir, List.drop_length]
      simp only [partK]
    simp -implicitDefEqProofs only [go_sem, Nat.reduceEqDiff, Nat.reduceAdd, Nat.reduceLeDiff, ↓reduceIte, reduceCtorEq, Int.reduceBEq, Int.reduceBNe, Int.reduceLT, Int.reduceLE, Int.reduceGT, Int.reduceGE, Int.reduceNeg, Int.reduceAdd, Int.reduceSub, Nat.reduceMul, Nat.reduceLT, Int.reduceToNat, t3, t8, t9, t10, hb, hlen, hltI, hr, w5]
    exact hE

end Go.Proofs.Ytooaiddfokbffaa.E

/- Whether a term has its forms, as the reference asks it; its check and its size. Conditions: none. -/
set_option linter.unusedVariables false
set_option linter.unusedSimpArgs false
namespace Go.Proofs.Ytooaiddfokbffaa.E
open Go Go.Proofs
attribute [local go_sem] s_seq s_ops s_draw s_block s_skip s_ret s_exit i_nil i_cons i_run i_runG s_condQ c_true c_false aop ev_t ev_c updO_at updO_no upd_at t_normal t_ret t_exit b_normal b_ret b_exit a_some ac_v ac_agg ac_ptr ac_slc ac_ro ac_rop ac_fn new_next set_next argTm_zero argTm_succ argTm_nil ab_bool ab_uv beq_self_eq_true Option.some_beq_some Bool.not_not beq_iff_eq decide_true decide_false Bool.not_true Bool.not_false afld aload astore apack alen_str alen_ro alen_slc alen_nil new_get set_get ite_true ite_false Option.map_some Option.bind_some ibin isShift Nat.add_zero Nat.zero_add List.length_cons List.length_nil List.drop_zero List.drop_succ_cons List.take_succ_cons List.take_zero if_true if_false setL List.set_cons_zero List.set_cons_succ List.all_cons List.all_nil one_int one_bool one_str one_nil one_ptr one_slc one_ro one_rop one_fn Bool.and_self Bool.and_true true_and and_true and_self Bool.false_eq_true post_ret post_normal resAll resOne packR Option.some.injEq exists_eq_left' List.map_cons List.map_nil List.nil_append List.append_nil List.cons_append d_nil d_cons k_nil k_cons g_op g_same g_new avBlock forall_eq' List.getElem?_cons_succ List.getElem?_cons_zero List.getElem?_nil okind gOk bne false_imp_iff forall_const imp_self implies_true true_imp_iff i_callG

set_option maxRecDepth 100000 in
theorem kids2_ok (f : Int) (H : AHeap) : SCall Try.prog 131 [aint f] H fun x H' => x = aint (kidsF f) ∧ H' = H := by
  refine SCall.intro mixed cf131 ?_
  by_cases e1 : f = 1
  · subst e1; simp -implicitDefEqProofs only [c131, go_sem, Nat.reduceEqDiff, Nat.reduceAdd, Nat.reduceLeDiff, ↓reduceIte, reduceCtorEq, Int.reduceBEq, Int.reduceBNe, Int.reduceLT, Int.reduceLE, Int.reduceGT, Int.reduceGE, Int.reduceNeg, Int.reduceAdd, Int.reduceSub, Nat.reduceMul, Nat.reduceLT, Int.reduceToNat]; rfl
  by_cases e2 : f = 2
  · subst e2; simp -implicitDefEqProofs only [c131, go_sem, Nat.reduceEqDiff, Nat.reduceAdd, Nat.reduceLeDiff, ↓reduceIte, reduceCtorEq, Int.reduceBEq, Int.reduceBNe, Int.reduceLT, Int.reduceLE, Int.reduceGT, Int.reduceGE, Int.reduceNeg, Int.reduceAdd, Int.reduceSub, Nat.reduceMul, Nat.reduceLT, Int.reduceToNat]; rfl
  by_cases e3 : f = 10
  · subst e3; simp -implicitDefEqProofs only [c131, go_sem, Nat.reduceEqDiff, Nat.reduceAdd, Nat.reduceLeDiff, ↓reduceIte, reduceCtorEq, Int.reduceBEq, Int.reduceBNe, Int.reduceLT, Int.reduceLE, Int.reduceGT, Int.reduceGE, Int.reduceNeg, Int.reduceAdd, Int.reduceSub, Nat.reduceMul, Nat.reduceLT, Int.reduceToNat]; rfl
  by_cases e4 : f = 11
  · subst e4; simp -implicitDefEqProofs only [c131, go_sem, Nat.reduceEqDiff, Nat.reduceAdd, Nat.reduceLeDiff, ↓reduceIte, reduceCtorEq, Int.reduceBEq, Int.reduceBNe, Int.reduceLT, Int.reduceLE, Int.reduceGT, Int.reduceGE, Int.reduceNeg, Int.reduceAdd, Int.reduceSub, Nat.reduceMul, Nat.reduceLT, Int.reduceToNat]; rfl
  by_cases e5 : f = 8
  · subst e5; simp -implicitDefEqProofs only [c131, go_sem, Nat.reduceEqDiff, Nat.reduceAdd, Nat.reduceLeDiff, ↓reduceIte, reduceCtorEq, Int.reduceBEq, Int.reduceBNe, Int.reduceLT, Int.reduceLE, Int.reduceGT, Int.reduceGE, Int.reduceNeg, Int.reduceAdd, Int.reduceSub, Nat.reduceMul, Nat.reduceLT, Int.reduceToNat]; rfl
  by_cases e6 : f = 9
  · subst e6; simp -implicitDefEqProofs only [c131, go_sem, Nat.reduceEqDiff, Nat.reduceAdd, Nat.reduceLeDiff, ↓reduceIte, reduceCtorEq, Int.reduceBEq, Int.reduceBNe, Int.reduceLT, Int.reduceLE, Int.reduceGT, Int.reduceGE, Int.reduceNeg, Int.reduceAdd, Int.reduceSub, Nat.reduceMul, Nat.reduceLT, Int.reduceToNat]; rfl
  by_cases e7 : f = 7
  · subst e7; simp -implicitDefEqProofs only [c131, go_sem, Nat.reduceEqDiff, Nat.reduceAdd, Nat.reduceLeDiff, ↓reduceIte, reduceCtorEq, Int.reduceBEq, Int.reduceBNe, Int.reduceLT, Int.reduceLE, Int.reduceGT, Int.reduceGE, Int.reduceNeg, Int.reduceAdd, Int.reduceSub, Nat.reduceMul, Nat.reduceLT, Int.reduceToNat]; rfl
  by_cases e8 : f = 3
  · subst e8; simp -implicitDefEqProofs only [c131, go_sem, Nat.reduceEqDiff, Nat.reduceAdd, Nat.reduceLeDiff, ↓reduceIte, reduceCtorEq, Int.reduceBEq, Int.reduceBNe, Int.reduceLT, Int.reduceLE, Int.reduceGT, Int.reduceGE, Int.reduceNeg, Int.reduceAdd, Int.reduceSub, Nat.reduceMul, Nat.reduceLT, Int.reduceToNat]; rfl
  by_cases e9 : f = 4
  · subst e9; simp -implicitDefEqProofs only [c131, go_sem, Nat.reduceEqDiff, Nat.reduceAdd, Nat.reduceLeDiff, ↓reduceIte, reduceCtorEq, Int.reduceBEq, Int.reduceBNe, Int.reduceLT, Int.reduceLE, Int.reduceGT, Int.reduceGE, Int.reduceNeg, Int.reduceAdd, Int.reduceSub, Nat.reduceMul, Nat.reduceLT, Int.reduceToNat]; rfl
  by_cases e10 : f = 5
  · subst e10; simp -implicitDefEqProofs only [c131, go_sem, Nat.reduceEqDiff, Nat.reduceAdd, Nat.reduceLeDiff, ↓reduceIte, reduceCtorEq, Int.reduceBEq, Int.reduceBNe, Int.reduceLT, Int.reduceLE, Int.reduceGT, Int.reduceGE, Int.reduceNeg, Int.reduceAdd, Int.reduceSub, Nat.reduceMul, Nat.reduceLT, Int.reduceToNat]; rfl
  by_cases e11 : f = 6
  · subst e11; simp -implicitDefEqProofs only [c131, go_sem, Nat.reduceEqDiff, Nat.reduceAdd, Nat.reduceLeDiff, ↓reduceIte, reduceCtorEq, Int.reduceBEq, Int.reduceBNe, Int.reduceLT, Int.reduceLE, Int.reduceGT, Int.reduceGE, Int.reduceNeg, Int.reduceAdd, Int.reduceSub, Nat.reduceMul, Nat.reduceLT, Int.reduceToNat]; rfl
  simp -implicitDefEqProofs only [c131, go_sem, Nat.reduceEqDiff, Nat.reduceAdd, Nat.reduceLeDiff, ↓reduceIte, reduceCtorEq, Int.reduceBEq, Int.reduceBNe, Int.reduceLT, Int.reduceLE, Int.reduceGT, Int.reduceGE, Int.reduceNeg, Int.reduceAdd, Int.reduceSub, Nat.reduceMul, Nat.reduceLT, Int.reduceToNat, bne_of e1, bne_of e2, bne_of e3, bne_of e4, bne_of e5, bne_of e6, bne_of e7, bne_of e8, bne_of e9, bne_of e10, bne_of e11]
  simp only [kidsF, e1, e2, e3, e4, e5, e6, e7, e8, e9, e10, e11, if_false]

/-- The reference tells whether a level is canonical. -/
def CanSpec2 (r : Lv → Bool) (l : Lv) : Prop := ∀ (vx : AV) (vs : List AV) (H : AHeap), SlR l.vars.length vx vs → VarsR l.vars vs → SCall Try.prog 132 [.agg [aint l.n, vx]] H fun x H' => x = abl (r l) ∧ H' = H
def Fine2 (r : Lv → Bool) (t : Tm) : Prop := t.lv.length ≤ 4611686018427387904 ∧ t.kids.length ≤ 4611686018427387904 ∧ ∀ l ∈ t.lv, CanSpec2 r l

theorem formF_eq (r : Lv → Bool) (f n : Int) (hid : Bool) (s : ByteArray) (lv : List Lv) (ks : List Tm) (hk : kidsF f = (ks.length : Int)) : formF r (.mk f n hid s lv ks) = if f = 1 ∨ f = 11 then decide (n ≥ 0) && decide (n ≤ 1073741824)
      else if f = 7 then headIs 6 ks
      else if f = 2 then ((lv.length : Int) == 1) && lv.all r
      else if f = 10 then !(s.data.toList == []) && decide ((s.size : Int) ≤ 60) && lv.all r
      else true := by
  simp only [formF, Tm.form, Tm.kids, Tm.n, Tm.lv, Tm.name, ne_eq, hk, not_true_eq_false, if_false]
  rfl

set_option maxRecDepth 100000 in
theorem formed2_ok (r : Lv → Bool) : ∀ t, Tm.All (Fine2 r) t → ∀ (cells : List AV), TmR t cells → ∀ (H : AHeap),
    SCall Try.prog 87 [.agg cells] H fun x H' => x = abl (allF (formF r) t) ∧ H' = H := by
  refine Tm.rule fun f n hid s lv ks ih hall cells hT H => ?_
  simp only [Tm.All] at hall
  obtain ⟨⟨hn1, hn2, hcan⟩, hallK⟩ := hall
  simp only [Tm.lv, Tm.kids] at hn1 hn2 hcan
  refine SCall.val (SCall.intro mixed cf87 ?_)
  obtain ⟨lx, kx, ls, cs, rfl, hl1, hl2, hk1, hk2⟩ := hT.six
  simp only [Tm.form, Tm.n, Tm.hid, Tm.name, Tm.lv, Tm.kids] at hl1 hl2 hk1 hk2 ⊢
  have w1 := fun H => hk1.alen H
  have w2 := fun H => hl1.alen H
  simp -implicitDefEqProofs only [c87, go_sem, Nat.reduceEqDiff, Nat.reduceAdd, Nat.reduceLeDiff, ↓reduceIte, reduceCtorEq, Int.reduceBEq, Int.reduceBNe, Int.reduceLT, Int.reduceLE, Int.reduceGT, Int.reduceGE, Int.reduceNeg, Int.reduceAdd, Int.reduceSub, Nat.reduceMul, Nat.reduceLT, Int.reduceToNat, hk1.one, hl1.one, hk1.cells, hl1.cells, w1, w2]
  refine i_callA (fs := []) (cs := []) (fid := 131) ?_ ?_ (kids2_ok f _) ?_
  · rfl
  · simp -implicitDefEqProofs only [go_sem, Nat.reduceEqDiff, Nat.reduceAdd, Nat.reduceLeDiff, ↓reduceIte, reduceCtorEq, Int.reduceBEq, Int.reduceBNe, Int.reduceLT, Int.reduceLE, Int.reduceGT, Int.reduceGE, Int.reduceNeg, Int.reduceAdd, Int.reduceSub, Nat.reduceMul, Nat.reduceLT, Int.reduceToNat]
  rintro x H3 ⟨rfl, rfl⟩
  have hE : ∀ o, Ext H (H.new o) := ext_new H
  by_cases hk : kidsF f = (ks.length : Int)
  case neg =>
    have hv : allF (formF r) (.mk f n hid s lv ks) = false := by
      simp only [allF, formF, Tm.form, Tm.kids, ne_eq, hk, not_false_eq_true, if_true, Bool.false_and]
    by_cases h0 : kidsF f < 0
    · simp -implicitDefEqProofs only [go_sem, Nat.reduceEqDiff, Nat.reduceAdd, Nat.reduceLeDiff, ↓reduceIte, reduceCtorEq, Int.reduceBEq, Int.reduceBNe, Int.reduceLT, Int.reduceLE, Int.reduceGT, Int.reduceGE, Int.reduceNeg, Int.reduceAdd, Int.reduceSub, Nat.reduceMul, Nat.reduceLT, Int.reduceToNat, w1, w2, h0]
      exact ⟨by rw [hv], hE _⟩
    · simp -implicitDefEqProofs only [go_sem, Nat.reduceEqDiff, Nat.reduceAdd, Nat.reduceLeDiff, ↓reduceIte, reduceCtorEq, Int.reduceBEq, Int.reduceBNe, Int.reduceLT, Int.reduceLE, Int.reduceGT, Int.reduceGE, Int.reduceNeg, Int.reduceAdd, Int.reduceSub, Nat.reduceMul, Nat.reduceLT, Int.reduceToNat, w1, w2, h0, bne_of hk]
      exact ⟨by rw [hv], hE _⟩
  have hform := formF_eq r f n hid s lv ks hk
  rw [hk]
  have h0 : ¬ (ks.length : Int) < 0 := by omega
  have hkb : ((ks.length : Int) == (ks.length : Int)) = true := by simp
  by_cases e1 : f = 1
  · subst e1
    have hform : formF r (.mk 1 n hid s lv ks) = (decide (n ≥ 0) && decide (n ≤ 1073741824)) := by rw [hform]; rfl
    by_cases hn0 : n < 0
    · have hn0' : ¬ n ≥ 0 := by omega
      simp -implicitDefEqProofs only [go_sem, Nat.reduceEqDiff, Nat.reduceAdd, Nat.reduceLeDiff, ↓reduceIte, reduceCtorEq, Int.reduceBEq, Int.reduceBNe, Int.reduceLT, Int.reduceLE, Int.reduceGT, Int.reduceGE, Int.reduceNeg, Int.reduceAdd, Int.reduceSub, Nat.reduceMul, Nat.reduceLT, Int.reduceToNat, w1, w2, h0, hkb, hn0]
      exact ⟨by simp only [allF, hform, hn0', decide_false, Bool.false_and], hE _⟩
    have hn0' : n ≥ 0 := by omega
    by_cases hn1' : n > 1073741824
    · have hn1'' : ¬ n ≤ 1073741824 := by omega
      simp -implicitDefEqProofs only [go_sem, Nat.reduceEqDiff, Nat.reduceAdd, Nat.reduceLeDiff, ↓reduceIte, reduceCtorEq, Int.reduceBEq, Int.reduceBNe, Int.reduceLT, Int.reduceLE, Int.reduceGT, Int.reduceGE, Int.reduceNeg, Int.reduceAdd, Int.reduceSub, Nat.reduceMul, Nat.reduceLT, Int.reduceToNat, w1, w2, h0, hkb, hn0, hn1']
      exact ⟨by simp only [allF, hform, hn1'', decide_false, Bool.false_and, Bool.and_false], hE _⟩
    have hn1'' : n ≤ 1073741824 := by omega
    have hres : allF (formF r) (.mk 1 n hid s lv ks) = allK (formF r) ks := by simp only [allF, hform, hn0', hn1'', decide_true, Bool.true_and]
    simp -implicitDefEqProofs only [go_sem, Nat.reduceEqDiff, Nat.reduceAdd, Nat.reduceLeDiff, ↓reduceIte, reduceCtorEq, Int.reduceBEq, Int.reduceBNe, Int.reduceLT, Int.reduceLE, Int.reduceGT, Int.reduceGE, Int.reduceNeg, Int.reduceAdd, Int.reduceSub, Nat.reduceMul, Nat.reduceLT, Int.reduceToNat, w1, w2, h0, hkb, hn0, hn1']
    refine swp_loop (fun k st => ∃ (i : Nat), k = ks.length - i ∧ i ≤ ks.length ∧ st.tm 1 = .ptr H.next 0 ∧ st.tm 3 = aint ks.length ∧ st.tm 6 = aint i ∧ Ext (H.new (.cells [aint 1, aint n, abl hid, .v (.string s), lx, kx])) st.heap ∧ allK (formF r) ks = allK (formF r) (ks.drop i)) (k := ks.length) ⟨0, ?_⟩ ?_
    · exact ⟨by omega, by omega, rfl, rfl, rfl, ⟨Nat.le_refl _, fun _ _ => rfl⟩, by simp⟩
    rintro k ⟨tm, H2⟩ ⟨i, rfl, hi, t1, t3, t6, ⟨hx1, hx2⟩, hr⟩
    simp only at t1 t3 t6 hx1 hx2
    rw [new_next] at hx1
    have hb : H2.get H.next = some (.cells [aint 1, aint n, abl hid, .v (.string s), lx, kx]) := by
      rw [hx2 H.next (by rw [new_next]; omega), new_get, if_pos rfl]
    have hE2 : Ext H H2 := ⟨by omega, fun b hb' => by rw [hx2 b (by rw [new_next]; omega), new_get, if_neg (by omega)]⟩
    by_cases hlt : i < ks.length
    · obtain ⟨kc, hkc, hle, hld⟩ := hk2.load (List.getElem?_eq_getElem hlt)
      have hix := hk1.aix 6 hlt
      have hdrop : ks.drop i = ks[i] :: ks.drop (i + 1) := List.drop_eq_getElem_cons hlt
      have hltI : (i : Int) < (ks.length : Int) := by omega
      have w3 : IntKind.i64.wrap ((i : Int) + 1) = (i : Int) + 1 := i64_ok _ (by omega)
      simp -implicitDefEqProofs only [go_sem, Nat.reduceEqDiff, Nat.reduceAdd, Nat.reduceLeDiff, ↓reduceIte, reduceCtorEq, Int.reduceBEq, Int.reduceBNe, Int.reduceLT, Int.reduceLE, Int.reduceGT, Int.reduceGE, Int.reduceNeg, Int.reduceAdd, Int.reduceSub, Nat.reduceMul, Nat.reduceLT, Int.reduceToNat, t1, t3, t6, hb, hltI, hix, hle, hld]
      refine i_callA (fs := []) (cs := []) (fid := 87) ?_ ?_ (ih ks[i] (List.getElem_mem hlt) (hallK.mem _ (List.getElem_mem hlt)) _ hkc _) ?_
      · rfl
      · simp -implicitDefEqProofs only [go_sem, Nat.reduceEqDiff, Nat.reduceAdd, Nat.reduceLeDiff, ↓reduceIte, reduceCtorEq, Int.reduceBEq, Int.reduceBNe, Int.reduceLT, Int.reduceLE, Int.reduceGT, Int.reduceGE, Int.reduceNeg, Int.reduceAdd, Int.reduceSub, Nat.reduceMul, Nat.reduceLT, Int.reduceToNat]
      rintro x H3 ⟨rfl, rfl⟩
      cases hf1 : allF (formF r) ks[i] with
      | true =>
        simp -implicitDefEqProofs only [go_sem, Nat.reduceEqDiff, Nat.reduceAdd, Nat.reduceLeDiff, ↓reduceIte, reduceCtorEq, Int.reduceBEq, Int.reduceBNe, Int.reduceLT, Int.reduceLE, Int.reduceGT, Int.reduceGE, Int.reduceNeg, Int.reduceAdd, Int.reduceSub, Nat.reduceMul, Nat.reduceLT, Int.reduceToNat, t6, w3]
        refine ⟨ks.length - (i + 1), by omega, i + 1, rfl, ?_⟩
        and_intros
        all_goals first | omega | assumption | rfl | exact ⟨by rw [new_next]; omega, hx2⟩ | (rw [hr, hdrop]; simp only [allK, hf1, Bool.true_and]) | simp
      | false =>
        simp -implicitDefEqProofs only [go_sem, Nat.reduceEqDiff, Nat.reduceAdd, Nat.reduceLeDiff, ↓reduceIte, reduceCtorEq, Int.reduceBEq, Int.reduceBNe, Int.reduceLT, Int.reduceLE, Int.reduceGT, Int.reduceGE, Int.reduceNeg, Int.reduceAdd, Int.reduceSub, Nat.reduceMul, Nat.reduceLT, Int.reduceToNat]
        refine ⟨?_, hE2⟩
        rw [hres, hr, hdrop]; simp only [allK, hf1, Bool.false_and]
    · have hir : i = ks.length := by omega
      have hltI : ¬ (i : Int) < (ks.length : Int) := by omega
      simp -implicitDefEqProofs only [go_sem, Nat.reduceEqDiff, Nat.reduceAdd, Nat.reduceLeDiff, ↓reduceIte, reduceCtorEq, Int.reduceBEq, Int.reduceBNe, Int.reduceLT, Int.reduceLE, Int.reduceGT, Int.reduceGE, Int.reduceNeg, Int.reduceAdd, Int.reduceSub, Nat.reduceMul, Nat.reduceLT, Int.reduceToNat, t3, t6, hltI]
      refine ⟨?_, hE2⟩
      rw [hres, hr, hir, List.drop_length]
      rfl
  by_cases e11 : f = 11
  · subst e11
    have hform : formF r (.mk 11 n hid s lv ks) = (decide (n ≥ 0) && decide (n ≤ 1073741824)) := by rw [hform]; rfl
    by_cases hn0 : n < 0
    · have hn0' : ¬ n ≥ 0 := by omega
      simp -implicitDefEqProofs only [go_sem, Nat.reduceEqDiff, Nat.reduceAdd, Nat.reduceLeDiff, ↓reduceIte, reduceCtorEq, Int.reduceBEq, Int.reduceBNe, Int.reduceLT, Int.reduceLE, Int.reduceGT, Int.reduceGE, Int.reduceNeg, Int.reduceAdd, Int.reduceSub, Nat.reduceMul, Nat.reduceLT, Int.reduceToNat, w1, w2, h0, hkb, hn0]
      exact ⟨by simp only [allF, hform, hn0', decide_false, Bool.false_and], hE _⟩
    have hn0' : n ≥ 0 := by omega
    by_cases hn1' : n > 1073741824
    · have hn1'' : ¬ n ≤ 1073741824 := by omega
      simp -implicitDefEqProofs only [go_sem, Nat.reduceEqDiff, Nat.reduceAdd, Nat.reduceLeDiff, ↓reduceIte, reduceCtorEq, Int.reduceBEq, Int.reduceBNe, Int.reduceLT, Int.reduceLE, Int.reduceGT, Int.reduceGE, Int.reduceNeg, Int.reduceAdd, Int.reduceSub, Nat.reduceMul, Nat.reduceLT, Int.reduceToNat, w1, w2, h0, hkb, hn0, hn1']
      exact ⟨by simp only [allF, hform, hn1'', decide_false, Bool.false_and, Bool.and_false], hE _⟩
    have hn1'' : n ≤ 1073741824 := by omega
    have hres : allF (formF r) (.mk 11 n hid s lv ks) = allK (formF r) ks := by simp only [allF, hform, hn0', hn1'', decide_true, Bool.true_and]
    simp -implicitDefEqProofs only [go_sem, Nat.reduceEqDiff, Nat.reduceAdd, Nat.reduceLeDiff, ↓reduceIte, reduceCtorEq, Int.reduceBEq, Int.reduceBNe, Int.reduceLT, Int.reduceLE, Int.reduceGT, Int.reduceGE, Int.reduceNeg, Int.reduceAdd, Int.reduceSub, Nat.reduceMul, Nat.reduceLT, Int.reduceToNat, w1, w2, h0, hkb, hn0, hn1']
    refine swp_loop (fun k st => ∃ (i : Nat), k = ks.length - i ∧ i ≤ ks.length ∧ st.tm 1 = .ptr H.next 0 ∧ st.tm 3 = aint ks.length ∧ st.tm 6 = aint i ∧ Ext (H.new (.cells [aint 11, aint n, abl hid, .v (.string s), lx, kx])) st.heap ∧ allK (formF r) ks = allK (formF r) (ks.drop i)) (k := ks.length) ⟨0, ?_⟩ ?_
    · exact ⟨by omega, by omega, rfl, rfl, rfl, ⟨Nat.le_refl _, fun _ _ => rfl⟩, by simp⟩
    rintro k ⟨tm, H2⟩ ⟨i, rfl, hi, t1, t3, t6, ⟨hx1, hx2⟩, hr⟩
    simp only at t1 t3 t6 hx1 hx2
    rw [new_next] at hx1
    have hb : H2.get H.next = some (.cells [aint 11, aint n, abl hid, .v (.string s), lx, kx]) := by
      rw [hx2 H.next (by rw [new_next]; omega), new_get, if_pos rfl]
    have hE2 : Ext H H2 := ⟨by omega, fun b hb' => by rw [hx2 b (by rw [new_next]; omega), new_get, if_neg (by omega)]⟩
    by_cases hlt : i < ks.length
    · obtain ⟨kc, hkc, hle, hld⟩ := hk2.load (List.getElem?_eq_getElem hlt)
      have hix := hk1.aix 6 hlt
      have hdrop : ks.drop i = ks[i] :: ks.drop (i + 1) := List.drop_eq_getElem_cons hlt
      have hltI : (i : Int) < (ks.length : Int) := by omega
      have w3 : IntKind.i64.wrap ((i : Int) + 1) = (i : Int) + 1 := i64_ok _ (by omega)
      simp -implicitDefEqProofs only [go_sem, Nat.reduceEqDiff, Nat.reduceAdd, Nat.reduceLeDiff, ↓reduceIte, reduceCtorEq, Int.reduceBEq, Int.reduceBNe, Int.reduceLT, Int.reduceLE, Int.reduceGT, Int.reduceGE, Int.reduceNeg, Int.reduceAdd, Int.reduceSub, Nat.reduceMul, Nat.reduceLT, Int.reduceToNat, t1, t3, t6, hb, hltI, hix, hle, hld]
      refine i_callA (fs := []) (cs := []) (fid := 87) ?_ ?_ (ih ks[i] (List.getElem_mem hlt) (hallK.mem _ (List.getElem_mem hlt)) _ hkc _) ?_
      · rfl
      · simp -implicitDefEqProofs only [go_sem, Nat.reduceEqDiff, Nat.reduceAdd, Nat.reduceLeDiff, ↓reduceIte, reduceCtorEq, Int.reduceBEq, Int.reduceBNe, Int.reduceLT, Int.reduceLE, Int.reduceGT, Int.reduceGE, Int.reduceNeg, Int.reduceAdd, Int.reduceSub, Nat.reduceMul, Nat.reduceLT, Int.reduceToNat]
      rintro x H3 ⟨rfl, rfl⟩
      cases hf1 : allF (formF r) ks[i] with
      | true =>
        simp -implicitDefEqProofs only [go_sem, Nat.reduceEqDiff, Nat.reduceAdd, Nat.reduceLeDiff, ↓reduceIte, reduceCtorEq, Int.reduceBEq, Int.reduceBNe, Int.reduceLT, Int.reduceLE, Int.reduceGT, Int.reduceGE, Int.reduceNeg, Int.reduceAdd, Int.reduceSub, Nat.reduceMul, Nat.reduceLT, Int.reduceToNat, t6, w3]
        refine ⟨ks.length - (i + 1), by omega, i + 1, rfl, ?_⟩
        and_intros
        all_goals first | omega | assumption | rfl | exact ⟨by rw [new_next]; omega, hx2⟩ | (rw [hr, hdrop]; simp only [allK, hf1, Bool.true_and]) | simp
      | false =>
        simp -implicitDefEqProofs only [go_sem, Nat.reduceEqDiff, Nat.reduceAdd, Nat.reduceLeDiff, ↓reduceIte, reduceCtorEq, Int.reduceBEq, Int.reduceBNe, Int.reduceLT, Int.reduceLE, Int.reduceGT, Int.reduceGE, Int.reduceNeg, Int.reduceAdd, Int.reduceSub, Nat.reduceMul, Nat.reduceLT, Int.reduceToNat]
        refine ⟨?_, hE2⟩
        rw [hres, hr, hdrop]; simp only [allK, hf1, Bool.false_and]
    · have hir : i = ks.length := by omega
      have hltI : ¬ (i : Int) < (ks.length : Int) := by omega
      simp -implicitDefEqProofs only [go_sem, Nat.reduceEqDiff, Nat.reduceAdd, Nat.reduceLeDiff, ↓reduceIte, reduceCtorEq, Int.reduceBEq, Int.reduceBNe, Int.reduceLT, Int.reduceLE, Int.reduceGT, Int.reduceGE, Int.reduceNeg, Int.reduceAdd, Int.reduceSub, Nat.reduceMul, Nat.reduceLT, Int.reduceToNat, t3, t6, hltI]
      refine ⟨?_, hE2⟩
      rw [hres, hr, hir, List.drop_length]
      rfl
  by_cases e7 : f = 7
  · subst e7
    have hform : formF r (.mk 7 n hid s lv ks) = headIs 6 ks := by rw [hform]; rfl
    have hlen : ks.length = 3 := by
      have : kidsF 7 = 3 := rfl
      omega
    obtain ⟨k, hk0⟩ : ∃ k, ks[0]? = some k := ⟨_, List.getElem?_eq_getElem (by omega)⟩
    have hhead : headIs 6 ks = (k.form == 6) := by
      cases ks with
      | nil => simp at hk0
      | cons k' ks' => simp at hk0; subst hk0; rfl
    have hix := hk1.aix 6 (i := 0) (by omega)
    obtain ⟨kc, hkc, hle, hld⟩ := hk2.load (i := 0) (k := k) hk0
    obtain ⟨lx1, kx1, ls1, cs1, hkc6, _⟩ := hkc.six
    rw [hkc6] at hld
    simp only [Nat.zero_mul, Nat.zero_add, List.drop_zero, Int.natCast_zero, Int.ofNat_zero, Int.ofNat_eq_natCast, Int.cast_ofNat_Int] at hle hld hix
    have hle1 : 1 ≤ cs.length := by omega
    have hld1 : cs.take 1 = [aint k.form] := by
      have := congrArg (List.take 1) hld
      rw [List.take_take] at this
      exact this
    cases h6 : (k.form == 6) with
    | false =>
      simp -implicitDefEqProofs only [go_sem, Nat.reduceEqDiff, Nat.reduceAdd, Nat.reduceLeDiff, ↓reduceIte, reduceCtorEq, Int.reduceBEq, Int.reduceBNe, Int.reduceLT, Int.reduceLE, Int.reduceGT, Int.reduceGE, Int.reduceNeg, Int.reduceAdd, Int.reduceSub, Nat.reduceMul, Nat.reduceLT, Int.reduceToNat, w1, w2, h0, hkb, hix, hle1, hld1, h6]
      exact ⟨by simp only [allF, hform, hhead, h6, Bool.false_and], hE _⟩
    | true =>
    have hres : allF (formF r) (.mk 7 n hid s lv ks) = allK (formF r) ks := by simp only [allF, hform, hhead, h6, Bool.true_and]
    clear hle hld hix hkc hkc6
    have hix := hk1.aix 6 (i := 0) (by omega)
    simp only [Nat.zero_mul, Int.natCast_zero, Int.ofNat_zero, Int.ofNat_eq_natCast, Int.cast_ofNat_Int] at hix
    simp -implicitDefEqProofs only [go_sem, Nat.reduceEqDiff, Nat.reduceAdd, Nat.reduceLeDiff, ↓reduceIte, reduceCtorEq, Int.reduceBEq, Int.reduceBNe, Int.reduceLT, Int.reduceLE, Int.reduceGT, Int.reduceGE, Int.reduceNeg, Int.reduceAdd, Int.reduceSub, Nat.reduceMul, Nat.reduceLT, Int.reduceToNat, w1, w2, h0, hkb, hix, hle1, hld1, h6]
    clear hix
    refine swp_loop (fun k st => ∃ (i : Nat), k = ks.length - i ∧ i ≤ ks.length ∧ st.tm 1 = .ptr H.next 0 ∧ st.tm 3 = aint ks.length ∧ st.tm 6 = aint i ∧ Ext (H.new (.cells [aint 7, aint n, abl hid, .v (.string s), lx, kx])) st.heap ∧ allK (formF r) ks = allK (formF r) (ks.drop i)) (k := ks.length) ⟨0, ?_⟩ ?_
    · exact ⟨by omega, by omega, rfl, rfl, rfl, ⟨Nat.le_refl _, fun _ _ => rfl⟩, by simp⟩
    rintro k ⟨tm, H2⟩ ⟨i, rfl, hi, t1, t3, t6, ⟨hx1, hx2⟩, hr⟩
    simp only at t1 t3 t6 hx1 hx2
    rw [new_next] at hx1
    have hb : H2.get H.next = some (.cells [aint 7, aint n, abl hid, .v (.string s), lx, kx]) := by
      rw [hx2 H.next (by rw [new_next]; omega), new_get, if_pos rfl]
    have hE2 : Ext H H2 := ⟨by omega, fun b hb' => by rw [hx2 b (by rw [new_next]; omega), new_get, if_neg (by omega)]⟩
    by_cases hlt : i < ks.length
    · obtain ⟨kc, hkc, hle, hld⟩ := hk2.load (List.getElem?_eq_getElem hlt)
      have hix := hk1.aix 6 hlt
      have hdrop : ks.drop i = ks[i] :: ks.drop (i + 1) := List.drop_eq_getElem_cons hlt
      have hltI : (i : Int) < (ks.length : Int) := by omega
      have w3 : IntKind.i64.wrap ((i : Int) + 1) = (i : Int) + 1 := i64_ok _ (by omega)
      simp -implicitDefEqProofs only [go_sem, Nat.reduceEqDiff, Nat.reduceAdd, Nat.reduceLeDiff, ↓reduceIte, reduceCtorEq, Int.reduceBEq, Int.reduceBNe, Int.reduceLT, Int.reduceLE, Int.reduceGT, Int.reduceGE, Int.reduceNeg, Int.reduceAdd, Int.reduceSub, Nat.reduceMul, Nat.reduceLT, Int.reduceToNat, t1, t3, t6, hb, hltI, hix, hle, hld]
      refine i_callA (fs := []) (cs := []) (fid := 87) ?_ ?_ (ih ks[i] (List.getElem_mem hlt) (hallK.mem _ (List.getElem_mem hlt)) _ hkc _) ?_
      · rfl
      · simp -implicitDefEqProofs only [go_sem, Nat.reduceEqDiff, Nat.reduceAdd, Nat.reduceLeDiff, ↓reduceIte, reduceCtorEq, Int.reduceBEq, Int.reduceBNe, Int.reduceLT, Int.reduceLE, Int.reduceGT, Int.reduceGE, Int.reduceNeg, Int.reduceAdd, Int.reduceSub, Nat.reduceMul, Nat.reduceLT, Int.reduceToNat]
      rintro x H3 ⟨rfl, rfl⟩
      cases hf1 : allF (formF r) ks[i] with
      | true =>
        simp -implicitDefEqProofs only [go_sem, Nat.reduceEqDiff, Nat.reduceAdd, Nat.reduceLeDiff, ↓reduceIte, reduceCtorEq, Int.reduceBEq, Int.reduceBNe, Int.reduceLT, Int.reduceLE, Int.reduceGT, Int.reduceGE, Int.reduceNeg, Int.reduceAdd, Int.reduceSub, Nat.reduceMul, Nat.reduceLT, Int.reduceToNat, t6, w3]
        refine ⟨ks.length - (i + 1), by omega, i + 1, rfl, ?_⟩
        and_intros
        all_goals first | omega | assumption | rfl | exact ⟨by rw [new_next]; omega, hx2⟩ | (rw [hr, hdrop]; simp only [allK, hf1, Bool.true_and]) | simp
      | false =>
        simp -implicitDefEqProofs only [go_sem, Nat.reduceEqDiff, Nat.reduceAdd, Nat.reduceLeDiff, ↓reduceIte, reduceCtorEq, Int.reduceBEq, Int.reduceBNe, Int.reduceLT, Int.reduceLE, Int.reduceGT, Int.reduceGE, Int.reduceNeg, Int.reduceAdd, Int.reduceSub, Nat.reduceMul, Nat.reduceLT, Int.reduceToNat]
        refine ⟨?_, hE2⟩
        rw [hres, hr, hdrop]; simp only [allK, hf1, Bool.false_and]
    · have hir : i = ks.length := by omega
      have hltI : ¬ (i : Int) < (ks.length : Int) := by omega
      simp -implicitDefEqProofs only [go_sem, Nat.reduceEqDiff, Nat.reduceAdd, Nat.reduceLeDiff, ↓reduceIte, reduceCtorEq, Int.reduceBEq, Int.reduceBNe, Int.reduceLT, Int.reduceLE, Int.reduceGT, Int.reduceGE, Int.reduceNeg, Int.reduceAdd, Int.reduceSub, Nat.reduceMul, Nat.reduceLT, Int.reduceToNat, t3, t6, hltI]
      refine ⟨?_, hE2⟩
      rw [hres, hr, hir, List.drop_length]
      rfl
  by_cases e2 : f = 2
  · subst e2
    have hform : formF r (.mk 2 n hid s lv ks) = (((lv.length : Int) == 1) && lv.all r) := by rw [hform]; rfl
    cases hl : ((lv.length : Int) == 1) with
    | false =>
      simp -implicitDefEqProofs only [go_sem, Nat.reduceEqDiff, Nat.reduceAdd, Nat.reduceLeDiff, ↓reduceIte, reduceCtorEq, Int.reduceBEq, Int.reduceBNe, Int.reduceLT, Int.reduceLE, Int.reduceGT, Int.reduceGE, Int.reduceNeg, Int.reduceAdd, Int.reduceSub, Nat.reduceMul, Nat.reduceLT, Int.reduceToNat, w1, w2, h0, hkb, hl]
      exact ⟨by simp only [allF, hform, hl, Bool.false_and], hE _⟩
    | true =>
    simp -implicitDefEqProofs only [go_sem, Nat.reduceEqDiff, Nat.reduceAdd, Nat.reduceLeDiff, ↓reduceIte, reduceCtorEq, Int.reduceBEq, Int.reduceBNe, Int.reduceLT, Int.reduceLE, Int.reduceGT, Int.reduceGE, Int.reduceNeg, Int.reduceAdd, Int.reduceSub, Nat.reduceMul, Nat.reduceLT, Int.reduceToNat, w1, w2, h0, hkb, hl]
    refine swp_loop (fun k st => ∃ (i : Nat), k = lv.length - i ∧ i ≤ lv.length ∧ st.tm 1 = .ptr H.next 0 ∧ st.tm 3 = aint ks.length ∧ st.tm 4 = aint i ∧ Ext (H.new (.cells [aint 2, aint n, abl hid, .v (.string s), lx, kx])) st.heap ∧ lv.all r = (lv.drop i).all r) (k := lv.length) ⟨0, ?_⟩ ?_
    · exact ⟨by omega, by omega, rfl, rfl, rfl, ⟨Nat.le_refl _, fun _ _ => rfl⟩, by simp⟩
    rintro k ⟨tm, H2⟩ ⟨i, rfl, hi, t1, t3, t4, hxx, hr⟩
    obtain ⟨hx1, hx2⟩ := hxx
    simp only at t1 t3 t4 hx1 hx2
    rw [new_next] at hx1
    have hb : H2.get H.next = some (.cells [aint 2, aint n, abl hid, .v (.string s), lx, kx]) := by
      rw [hx2 H.next (by rw [new_next]; omega), new_get, if_pos rfl]
    have hE2 : Ext H H2 := ⟨by omega, fun b hb' => by rw [hx2 b (by rw [new_next]; omega), new_get, if_neg (by omega)]⟩
    by_cases hlt : i < lv.length
    · obtain ⟨vx, vs, hle, hld, hv1, hv2⟩ := hl2.at (List.getElem?_eq_getElem hlt)
      have hix := hl1.aix 2 hlt
      have hdrop : lv.drop i = lv[i] :: lv.drop (i + 1) := List.drop_eq_getElem_cons hlt
      have hltI : (i : Int) < (lv.length : Int) := by omega
      have w3 : IntKind.i64.wrap ((i : Int) + 1) = (i : Int) + 1 := i64_ok _ (by omega)
      simp -implicitDefEqProofs only [go_sem, Nat.reduceEqDiff, Nat.reduceAdd, Nat.reduceLeDiff, ↓reduceIte, reduceCtorEq, Int.reduceBEq, Int.reduceBNe, Int.reduceLT, Int.reduceLE, Int.reduceGT, Int.reduceGE, Int.reduceNeg, Int.reduceAdd, Int.reduceSub, Nat.reduceMul, Nat.reduceLT, Int.reduceToNat, t1, t3, t4, hb, w2, hltI, hix, hle, hld]
      refine i_callA (fs := []) (cs := []) (fid := 132) ?_ ?_ (hcan lv[i] (List.getElem_mem hlt) vx vs _ hv1 hv2) ?_
      · rfl
      · simp -implicitDefEqProofs only [go_sem, Nat.reduceEqDiff, Nat.reduceAdd, Nat.reduceLeDiff, ↓reduceIte, reduceCtorEq, Int.reduceBEq, Int.reduceBNe, Int.reduceLT, Int.reduceLE, Int.reduceGT, Int.reduceGE, Int.reduceNeg, Int.reduceAdd, Int.reduceSub, Nat.reduceMul, Nat.reduceLT, Int.reduceToNat]
      rintro x H3 ⟨rfl, rfl⟩
      cases hf1 : r lv[i] with
      | true =>
        simp -implicitDefEqProofs only [go_sem, Nat.reduceEqDiff, Nat.reduceAdd, Nat.reduceLeDiff, ↓reduceIte, reduceCtorEq, Int.reduceBEq, Int.reduceBNe, Int.reduceLT, Int.reduceLE, Int.reduceGT, Int.reduceGE, Int.reduceNeg, Int.reduceAdd, Int.reduceSub, Nat.reduceMul, Nat.reduceLT, Int.reduceToNat, t4, w3]
        refine ⟨lv.length - (i + 1), by omega, i + 1, rfl, ?_⟩
        and_intros
        all_goals first | omega | assumption | rfl | exact ⟨by rw [new_next]; omega, hx2⟩ | (rw [hr, hdrop, List.all_cons, hf1, Bool.true_and]) | simp
      | false =>
        simp -implicitDefEqProofs only [go_sem, Nat.reduceEqDiff, Nat.reduceAdd, Nat.reduceLeDiff, ↓reduceIte, reduceCtorEq, Int.reduceBEq, Int.reduceBNe, Int.reduceLT, Int.reduceLE, Int.reduceGT, Int.reduceGE, Int.reduceNeg, Int.reduceAdd, Int.reduceSub, Nat.reduceMul, Nat.reduceLT, Int.reduceToNat]
        refine ⟨?_, hE2⟩
        have hall0 : lv.all r = false := by rw [hr, hdrop, List.all_cons, hf1]; rfl
        simp only [allF, hform, hall0]
        simp
    · have hir : i = lv.length := by omega
      have hltI : ¬ (i : Int) < (lv.length : Int) := by omega
      have hall1 : lv.all r = true := by rw [hr, hir, List.drop_length]; rfl
      have hres : allF (formF r) (.mk 2 n hid s lv ks) = allK (formF r) ks := by simp only [allF, hform, hall1]; simp only [hl, Bool.true_and]
      simp -implicitDefEqProofs only [go_sem, Nat.reduceEqDiff, Nat.reduceAdd, Nat.reduceLeDiff, ↓reduceIte, reduceCtorEq, Int.reduceBEq, Int.reduceBNe, Int.reduceLT, Int.reduceLE, Int.reduceGT, Int.reduceGE, Int.reduceNeg, Int.reduceAdd, Int.reduceSub, Nat.reduceMul, Nat.reduceLT, Int.reduceToNat, t1, t3, t4, hb, w2, hltI]
      refine swp_loop (fun k st => ∃ (i : Nat), k = ks.length - i ∧ i ≤ ks.length ∧ st.tm 1 = .ptr H.next 0 ∧ st.tm 3 = aint ks.length ∧ st.tm 6 = aint i ∧ Ext (H.new (.cells [aint 2, aint n, abl hid, .v (.string s), lx, kx])) st.heap ∧ allK (formF r) ks = allK (formF r) (ks.drop i)) (k := ks.length) ⟨0, ?_⟩ ?_
      · exact ⟨by omega, by omega, t1, t3, rfl, ⟨by rw [new_next]; omega, hx2⟩, by simp⟩
      rintro k ⟨tm, H2⟩ ⟨i, rfl, hi, t1, t3, t6, ⟨hx1, hx2⟩, hr⟩
      simp only at t1 t3 t6 hx1 hx2
      rw [new_next] at hx1
      have hb : H2.get H.next = some (.cells [aint 2, aint n, abl hid, .v (.string s), lx, kx]) := by
        rw [hx2 H.next (by rw [new_next]; omega), new_get, if_pos rfl]
      have hE2 : Ext H H2 := ⟨by omega, fun b hb' => by rw [hx2 b (by rw [new_next]; omega), new_get, if_neg (by omega)]⟩
      by_cases hlt : i < ks.length
      · obtain ⟨kc, hkc, hle, hld⟩ := hk2.load (List.getElem?_eq_getElem hlt)
        have hix := hk1.aix 6 hlt
        have hdrop : ks.drop i = ks[i] :: ks.drop (i + 1) := List.drop_eq_getElem_cons hlt
        have hltI : (i : Int) < (ks.length : Int) := by omega
        have w3 : IntKind.i64.wrap ((i : Int) + 1) = (i : Int) + 1 := i64_ok _ (by omega)
        simp -implicitDefEqProofs only [go_sem, Nat.reduceEqDiff, Nat.reduceAdd, Nat.reduceLeDiff, ↓reduceIte, reduceCtorEq, Int.reduceBEq, Int.reduceBNe, Int.reduceLT, Int.reduceLE, Int.reduceGT, Int.reduceGE, Int.reduceNeg, Int.reduceAdd, Int.reduceSub, Nat.reduceMul, Nat.reduceLT, Int.reduceToNat, t1, t3, t6, hb, hltI, hix, hle, hld]
        refine i_callA (fs := []) (cs := []) (fid := 87) ?_ ?_ (ih ks[i] (List.getElem_mem hlt) (hallK.mem _ (List.getElem_mem hlt)) _ hkc _) ?_
        · rfl
        · simp -implicitDefEqProofs only [go_sem, Nat.reduceEqDiff, Nat.reduceAdd, Nat.reduceLeDiff, ↓reduceIte, reduceCtorEq, Int.reduceBEq, Int.reduceBNe, Int.reduceLT, Int.reduceLE, Int.reduceGT, Int.reduceGE, Int.reduceNeg, Int.reduceAdd, Int.reduceSub, Nat.reduceMul, Nat.reduceLT, Int.reduceToNat]
        rintro x H3 ⟨rfl, rfl⟩
        cases hf1 : allF (formF r) ks[i] with
        | true =>
          simp -implicitDefEqProofs only [go_sem, Nat.reduceEqDiff, Nat.reduceAdd, Nat.reduceLeDiff, ↓reduceIte, reduceCtorEq, Int.reduceBEq, Int.reduceBNe, Int.reduceLT, Int.reduceLE, Int.reduceGT, Int.reduceGE, Int.reduceNeg, Int.reduceAdd, Int.reduceSub, Nat.reduceMul, Nat.reduceLT, Int.reduceToNat, t6, w3]
          refine ⟨ks.length - (i + 1), by omega, i + 1, rfl, ?_⟩
          and_intros
          all_goals first | omega | assumption | rfl | exact ⟨by rw [new_next]; omega, hx2⟩ | (rw [hr, hdrop]; simp only [allK, hf1, Bool.true_and]) | simp
        | false =>
          simp -implicitDefEqProofs only [go_sem, Nat.reduceEqDiff, Nat.reduceAdd, Nat.reduceLeDiff, ↓reduceIte, reduceCtorEq, Int.reduceBEq, Int.reduceBNe, Int.reduceLT, Int.reduceLE, Int.reduceGT, Int.reduceGE, Int.reduceNeg, Int.reduceAdd, Int.reduceSub, Nat.reduceMul, Nat.reduceLT, Int.reduceToNat]
          refine ⟨?_, hE2⟩
          rw [hres, hr, hdrop]; simp only [allK, hf1, Bool.false_and]
      · have hir : i = ks.length := by omega
        have hltI : ¬ (i : Int) < (ks.length : Int) := by omega
        simp -implicitDefEqProofs only [go_sem, Nat.reduceEqDiff, Nat.reduceAdd, Nat.reduceLeDiff, ↓reduceIte, reduceCtorEq, Int.reduceBEq, Int.reduceBNe, Int.reduceLT, Int.reduceLE, Int.reduceGT, Int.reduceGE, Int.reduceNeg, Int.reduceAdd, Int.reduceSub, Nat.reduceMul, Nat.reduceLT, Int.reduceToNat, t3, t6, hltI]
        refine ⟨?_, hE2⟩
        rw [hres, hr, hir, List.drop_length]
        rfl
  by_cases e10 : f = 10
  · subst e10
    have hform : formF r (.mk 10 n hid s lv ks) = (!(s.data.toList == []) && decide ((s.size : Int) ≤ 60) && lv.all r) := by rw [hform]; rfl
    cases hs : (s.data.toList == []) with
    | true =>
      simp -implicitDefEqProofs only [go_sem, Nat.reduceEqDiff, Nat.reduceAdd, Nat.reduceLeDiff, ↓reduceIte, reduceCtorEq, Int.reduceBEq, Int.reduceBNe, Int.reduceLT, Int.reduceLE, Int.reduceGT, Int.reduceGE, Int.reduceNeg, Int.reduceAdd, Int.reduceSub, Nat.reduceMul, Nat.reduceLT, Int.reduceToNat, sbin, w1, w2, h0, hkb, hs]
      exact ⟨by simp only [allF, hform, hs, Bool.not_true, Bool.false_and], hE _⟩
    | false =>
    by_cases hz : (s.size : Int) > 60
    · have hz' : ¬ (s.size : Int) ≤ 60 := by omega
      simp -implicitDefEqProofs only [go_sem, Nat.reduceEqDiff, Nat.reduceAdd, Nat.reduceLeDiff, ↓reduceIte, reduceCtorEq, Int.reduceBEq, Int.reduceBNe, Int.reduceLT, Int.reduceLE, Int.reduceGT, Int.reduceGE, Int.reduceNeg, Int.reduceAdd, Int.reduceSub, Nat.reduceMul, Nat.reduceLT, Int.reduceToNat, sbin, w1, w2, h0, hkb, hs, hz]
      exact ⟨by simp only [allF, hform, hs, hz', decide_false, Bool.and_false, Bool.false_and], hE _⟩
    have hz' : (s.size : Int) ≤ 60 := by omega
    simp -implicitDefEqProofs only [go_sem, Nat.reduceEqDiff, Nat.reduceAdd, Nat.reduceLeDiff, ↓reduceIte, reduceCtorEq, Int.reduceBEq, Int.reduceBNe, Int.reduceLT, Int.reduceLE, Int.reduceGT, Int.reduceGE, Int.reduceNeg, Int.reduceAdd, Int.reduceSub, Nat.reduceMul, Nat.reduceLT, Int.reduceToNat, sbin, w1, w2, h0, hkb, hs, hz]
    refine swp_loop (fun k st => ∃ (i : Nat), k = lv.length - i ∧ i ≤ lv.length ∧ st.tm 1 = .ptr H.next 0 ∧ st.tm 3 = aint ks.length ∧ st.tm 4 = aint i ∧ Ext (H.new (.cells [aint 10, aint n, abl hid, .v (.string s), lx, kx])) st.heap ∧ lv.all r = (lv.drop i).all r) (k := lv.length) ⟨0, ?_⟩ ?_
    · exact ⟨by omega, by omega, rfl, rfl, rfl, ⟨Nat.le_refl _, fun _ _ => rfl⟩, by simp⟩
    rintro k ⟨tm, H2⟩ ⟨i, rfl, hi, t1, t3, t4, hxx, hr⟩
    obtain ⟨hx1, hx2⟩ := hxx
    simp only at t1 t3 t4 hx1 hx2
    rw [new_next] at hx1
    have hb : H2.get H.next = some (.cells [aint 10, aint n, abl hid, .v (.string s), lx, kx]) := by
      rw [hx2 H.next (by rw [new_next]; omega), new_get, if_pos rfl]
    have hE2 : Ext H H2 := ⟨by omega, fun b hb' => by rw [hx2 b (by rw [new_next]; omega), new_get, if_neg (by omega)]⟩
    by_cases hlt : i < lv.length
    · obtain ⟨vx, vs, hle, hld, hv1, hv2⟩ := hl2.at (List.getElem?_eq_getElem hlt)
      have hix := hl1.aix 2 hlt
      have hdrop : lv.drop i = lv[i] :: lv.drop (i + 1) := List.drop_eq_getElem_cons hlt
      have hltI : (i : Int) < (lv.length : Int) := by omega
      have w3 : IntKind.i64.wrap ((i : Int) + 1) = (i : Int) + 1 := i64_ok _ (by omega)
      simp -implicitDefEqProofs only [go_sem, Nat.reduceEqDiff, Nat.reduceAdd, Nat.reduceLeDiff, ↓reduceIte, reduceCtorEq, Int.reduceBEq, Int.reduceBNe, Int.reduceLT, Int.reduceLE, Int.reduceGT, Int.reduceGE, Int.reduceNeg, Int.reduceAdd, Int.reduceSub, Nat.reduceMul, Nat.reduceLT, Int.reduceToNat, t1, t3, t4, hb, w2, hltI, hix, hle, hld]
      refine i_callA (fs := []) (cs := []) (fid := 132) ?_ ?_ (hcan lv[i] (List.getElem_mem hlt) vx vs _ hv1 hv2) ?_
      · rfl
      · simp -implicitDefEqProofs only [go_sem, Nat.reduceEqDiff, Nat.reduceAdd, Nat.reduceLeDiff, ↓reduceIte, reduceCtorEq, Int.reduceBEq, Int.reduceBNe, Int.reduceLT, Int.reduceLE, Int.reduceGT, Int.reduceGE, Int.reduceNeg, Int.reduceAdd, Int.reduceSub, Nat.reduceMul, Nat.reduceLT, Int.reduceToNat]
      rintro x H3 ⟨rfl, rfl⟩
      cases hf1 : r lv[i] with
      | true =>
        simp -implicitDefEqProofs only [go_sem, Nat.reduceEqDiff, Nat.reduceAdd, Nat.reduceLeDiff, ↓reduceIte, reduceCtorEq, Int.reduceBEq, Int.reduceBNe, Int.reduceLT, Int.reduceLE, Int.reduceGT, Int.reduceGE, Int.reduceNeg, Int.reduceAdd, Int.reduceSub, Nat.reduceMul, Nat.reduceLT, Int.reduceToNat, t4, w3]
        refine ⟨lv.length - (i + 1), by omega, i + 1, rfl, ?_⟩
        and_intros
        all_goals first | omega | assumption | rfl | exact ⟨by rw [new_next]; omega, hx2⟩ | (rw [hr, hdrop, List.all_cons, hf1, Bool.true_and]) | simp
      | false =>
        simp -implicitDefEqProofs only [go_sem, Nat.reduceEqDiff, Nat.reduceAdd, Nat.reduceLeDiff, ↓reduceIte, reduceCtorEq, Int.reduceBEq, Int.reduceBNe, Int.reduceLT, Int.reduceLE, Int.reduceGT, Int.reduceGE, Int.reduceNeg, Int.reduceAdd, Int.reduceSub, Nat.reduceMul, Nat.reduceLT, Int.reduceToNat]
        refine ⟨?_, hE2⟩
        have hall0 : lv.all r = false := by rw [hr, hdrop, List.all_cons, hf1]; rfl
        simp only [allF, hform, hall0]
        simp
    · have hir : i = lv.length := by omega
      have hltI : ¬ (i : Int) < (lv.length : Int) := by omega
      have hall1 : lv.all r = true := by rw [hr, hir, List.drop_length]; rfl
      have hres : allF (formF r) (.mk 10 n hid s lv ks) = allK (formF r) ks := by simp only [allF, hform, hall1]; simp only [hs, hz', decide_true, Bool.not_false, Bool.true_and]
      simp -implicitDefEqProofs only [go_sem, Nat.reduceEqDiff, Nat.reduceAdd, Nat.reduceLeDiff, ↓reduceIte, reduceCtorEq, Int.reduceBEq, Int.reduceBNe, Int.reduceLT, Int.reduceLE, Int.reduceGT, Int.reduceGE, Int.reduceNeg, Int.reduceAdd, Int.reduceSub, Nat.reduceMul, Nat.reduceLT, Int.reduceToNat, t1, t3, t4, hb, w2, hltI]
      refine swp_loop (fun k st => ∃ (i : Nat), k = ks.length - i ∧ i ≤ ks.length ∧ st.tm 1 = .ptr H.next 0 ∧ st.tm 3 = aint ks.length ∧ st.tm 6 = aint i ∧ Ext (H.new (.cells [aint 10, aint n, abl hid, .v (.string s), lx, kx])) st.heap ∧ allK (formF r) ks = allK (formF r) (ks.drop i)) (k := ks.length) ⟨0, ?_⟩ ?_
      · exact ⟨by omega, by omega, t1, t3, rfl, ⟨by rw [new_next]; omega, hx2⟩, by simp⟩
      rintro k ⟨tm, H2⟩ ⟨i, rfl, hi, t1, t3, t6, ⟨hx1, hx2⟩, hr⟩
      simp only at t1 t3 t6 hx1 hx2
      rw [new_next] at hx1
      have hb : H2.get H.next = some (.cells [aint 10, aint n, abl hid, .v (.string s), lx, kx]) := by
        rw [hx2 H.next (by rw [new_next]; omega), new_get, if_pos rfl]
      have hE2 : Ext H H2 := ⟨by omega, fun b hb' => by rw [hx2 b (by rw [new_next]; omega), new_get, if_neg (by omega)]⟩
      by_cases hlt : i < ks.length
      · obtain ⟨kc, hkc, hle, hld⟩ := hk2.load (List.getElem?_eq_getElem hlt)
        have hix := hk1.aix 6 hlt
        have hdrop : ks.drop i = ks[i] :: ks.drop (i + 1) := List.drop_eq_getElem_cons hlt
        have hltI : (i : Int) < (ks.length : Int) := by omega
        have w3 : IntKind.i64.wrap ((i : Int) + 1) = (i : Int) + 1 := i64_ok _ (by omega)
        simp -implicitDefEqProofs only [go_sem, Nat.reduceEqDiff, Nat.reduceAdd, Nat.reduceLeDiff, ↓reduceIte, reduceCtorEq, Int.reduceBEq, Int.reduceBNe, Int.reduceLT, Int.reduceLE, Int.reduceGT, Int.reduceGE, Int.reduceNeg, Int.reduceAdd, Int.reduceSub, Nat.reduceMul, Nat.reduceLT, Int.reduceToNat, t1, t3, t6, hb, hltI, hix, hle, hld]
        refine i_callA (fs := []) (cs := []) (fid := 87) ?_ ?_ (ih ks[i] (List.getElem_mem hlt) (hallK.mem _ (List.getElem_mem hlt)) _ hkc _) ?_
        · rfl
        · simp -implicitDefEqProofs only [go_sem, Nat.reduceEqDiff, Nat.reduceAdd, Nat.reduceLeDiff, ↓reduceIte, reduceCtorEq, Int.reduceBEq, Int.reduceBNe, Int.reduceLT, Int.reduceLE, Int.reduceGT, Int.reduceGE, Int.reduceNeg, Int.reduceAdd, Int.reduceSub, Nat.reduceMul, Nat.reduceLT, Int.reduceToNat]
        rintro x H3 ⟨rfl, rfl⟩
        cases hf1 : allF (formF r) ks[i] with
        | true =>
          simp -implicitDefEqProofs only [go_sem, Nat.reduceEqDiff, Nat.reduceAdd, Nat.reduceLeDiff, ↓reduceIte, reduceCtorEq, Int.reduceBEq, Int.reduceBNe, Int.reduceLT, Int.reduceLE, Int.reduceGT, Int.reduceGE, Int.reduceNeg, Int.reduceAdd, Int.reduceSub, Nat.reduceMul, Nat.reduceLT, Int.reduceToNat, t6, w3]
          refine ⟨ks.length - (i + 1), by omega, i + 1, rfl, ?_⟩
          and_intros
          all_goals first | omega | assumption | rfl | exact ⟨by rw [new_next]; omega, hx2⟩ | (rw [hr, hdrop]; simp only [allK, hf1, Bool.true_and]) | simp
        | false =>
          simp -implicitDefEqProofs only [go_sem, Nat.reduceEqDiff, Nat.reduceAdd, Nat.reduceLeDiff, ↓reduceIte, reduceCtorEq, Int.reduceBEq, Int.reduceBNe, Int.reduceLT, Int.reduceLE, Int.reduceGT, Int.reduceGE, Int.reduceNeg, Int.reduceAdd, Int.reduceSub, Nat.reduceMul, Nat.reduceLT, Int.reduceToNat]
          refine ⟨?_, hE2⟩
          rw [hres, hr, hdrop]; simp only [allK, hf1, Bool.false_and]
      · have hir : i = ks.length := by omega
        have hltI : ¬ (i : Int) < (ks.length : Int) := by omega
        simp -implicitDefEqProofs only [go_sem, Nat.reduceEqDiff, Nat.reduceAdd, Nat.reduceLeDiff, ↓reduceIte, reduceCtorEq, Int.reduceBEq, Int.reduceBNe, Int.reduceLT, Int.reduceLE, Int.reduceGT, Int.reduceGE, Int.reduceNeg, Int.reduceAdd, Int.reduceSub, Nat.reduceMul, Nat.reduceLT, Int.reduceToNat, t3, t6, hltI]
        refine ⟨?_, hE2⟩
        rw [hres, hr, hir, List.drop_length]
        rfl
  have hform : formF r (.mk f n hid s lv ks) = true := by rw [hform]; simp [e1, e2, e7, e10, e11]
  have hres : allF (formF r) (.mk f n hid s lv ks) = allK (formF r) ks := by simp only [allF, hform, Bool.true_and]
  simp -implicitDefEqProofs only [go_sem, Nat.reduceEqDiff, Nat.reduceAdd, Nat.reduceLeDiff, ↓reduceIte, reduceCtorEq, Int.reduceBEq, Int.reduceBNe, Int.reduceLT, Int.reduceLE, Int.reduceGT, Int.reduceGE, Int.reduceNeg, Int.reduceAdd, Int.reduceSub, Nat.reduceMul, Nat.reduceLT, Int.reduceToNat, w1, w2, h0, hkb, bne_of e1, bne_of e2, bne_of e7, bne_of e10, bne_of e11]
  refine swp_loop (fun k st => ∃ (i : Nat), k = ks.length - i ∧ i ≤ ks.length ∧ st.tm 1 = .ptr H.next 0 ∧ st.tm 3 = aint ks.length ∧ st.tm 6 = aint i ∧ Ext (H.new (.cells [aint f, aint n, abl hid, .v (.string s), lx, kx])) st.heap ∧ allK (formF r) ks = allK (formF r) (ks.drop i)) (k := ks.length) ⟨0, ?_⟩ ?_
  · exact ⟨by omega, by omega, rfl, rfl, rfl, ⟨Nat.le_refl _, fun _ _ => rfl⟩, by simp⟩
  rintro k ⟨tm, H2⟩ ⟨i, rfl, hi, t1, t3, t6, ⟨hx1, hx2⟩, hr⟩
  simp only at t1 t3 t6 hx1 hx2
  rw [new_next] at hx1
  have hb : H2.get H.next = some (.cells [aint f, aint n, abl hid, .v (.string s), lx, kx]) := by
    rw [hx2 H.next (by rw [new_next]; omega), new_get, if_pos rfl]
  have hE2 : Ext H H2 := ⟨by omega, fun b hb' => by rw [hx2 b (by rw [new_next]; omega), new_get, if_neg (by omega)]⟩
  by_cases hlt : i < ks.length
  · obtain ⟨kc, hkc, hle, hld⟩ := hk2.load (List.getElem?_eq_getElem hlt)
    have hix := hk1.aix 6 hlt
    have hdrop : ks.drop i = ks[i] :: ks.drop (i + 1) := List.drop_eq_getElem_cons hlt
    have hltI : (i : Int) < (ks.length : Int) := by omega
    have w3 : IntKind.i64.wrap ((i : Int) + 1) = (i : Int) + 1 := i64_ok _ (by omega)
    simp -implicitDefEqProofs only [go_sem, Nat.reduceEqDiff, Nat.reduceAdd, Nat.reduceLeDiff, ↓reduceIte, reduceCtorEq, Int.reduceBEq, Int.reduceBNe, Int.reduceLT, Int.reduceLE, Int.reduceGT, Int.reduceGE, Int.reduceNeg, Int.reduceAdd, Int.reduceSub, Nat.reduceMul, Nat.reduceLT, Int.reduceToNat, t1, t3, t6, hb, hltI, hix, hle, hld]
    refine i_callA (fs := []) (cs := []) (fid := 87) ?_ ?_ (ih ks[i] (List.getElem_mem hlt) (hallK.mem _ (List.getElem_mem hlt)) _ hkc _) ?_
    · rfl
    · simp -implicitDefEqProofs only [go_sem, Nat.reduceEqDiff, Nat.reduceAdd, Nat.reduceLeDiff, ↓reduceIte, reduceCtorEq, Int.reduceBEq, Int.reduceBNe, Int.reduceLT, Int.reduceLE, Int.reduceGT, Int.reduceGE, Int.reduceNeg, Int.reduceAdd, Int.reduceSub, Nat.reduceMul, Nat.reduceLT, Int.reduceToNat]
    rintro x H3 ⟨rfl, rfl⟩
    cases hf1 : allF (formF r) ks[i] with
    | true =>
      simp -implicitDefEqProofs only [go_sem, Nat.reduceEqDiff, Nat.reduceAdd, Nat.reduceLeDiff, ↓reduceIte, reduceCtorEq, Int.reduceBEq, Int.reduceBNe, Int.reduceLT, Int.reduceLE, Int.reduceGT, Int.reduceGE, Int.reduceNeg, Int.reduceAdd, Int.reduceSub, Nat.reduceMul, Nat.reduceLT, Int.reduceToNat, t6, w3]
      refine ⟨ks.length - (i + 1), by omega, i + 1, rfl, ?_⟩
      and_intros
      all_goals first | omega | assumption | rfl | exact ⟨by rw [new_next]; omega, hx2⟩ | (rw [hr, hdrop]; simp only [allK, hf1, Bool.true_and]) | simp
    | false =>
      simp -implicitDefEqProofs only [go_sem, Nat.reduceEqDiff, Nat.reduceAdd, Nat.reduceLeDiff, ↓reduceIte, reduceCtorEq, Int.reduceBEq, Int.reduceBNe, Int.reduceLT, Int.reduceLE, Int.reduceGT, Int.reduceGE, Int.reduceNeg, Int.reduceAdd, Int.reduceSub, Nat.reduceMul, Nat.reduceLT, Int.reduceToNat]
      refine ⟨?_, hE2⟩
      rw [hres, hr, hdrop]; simp only [allK, hf1, Bool.false_and]
  · have hir : i = ks.length := by omega
    have hltI : ¬ (i : Int) < (ks.length : Int) := by omega
    simp -implicitDefEqProofs only [go_sem, Nat.reduceEqDiff, Nat.reduceAdd, Nat.reduceLeDiff, ↓reduceIte, reduceCtorEq, Int.reduceBEq, Int.reduceBNe, Int.reduceLT, Int.reduceLE, Int.reduceGT, Int.reduceGE, Int.reduceNeg, Int.reduceAdd, Int.reduceSub, Nat.reduceMul, Nat.reduceLT, Int.reduceToNat, t3, t6, hltI]
    refine ⟨?_, hE2⟩
    rw [hres, hr, hir, List.drop_length]
    rfl

end Go.Proofs.Ytooaiddfokbffaa.E

/- The reference's check and size are the code's. Conditions: none. -/
set_option linter.unusedVariables false
set_option linter.unusedSimpArgs false
namespace Go.Proofs.Ytooaiddfokbffaa.E
open Go Go.Proofs
attribute [local go_sem] s_seq s_ops s_draw s_block s_skip s_ret s_exit i_nil i_cons i_run i_runG s_condQ c_true c_false aop ev_t ev_c updO_at updO_no upd_at t_normal t_ret t_exit b_normal b_ret b_exit a_some ac_v ac_agg ac_ptr ac_slc ac_ro ac_rop ac_fn new_next set_next argTm_zero argTm_succ argTm_nil ab_bool ab_uv beq_self_eq_true Option.some_beq_some Bool.not_not beq_iff_eq decide_true decide_false Bool.not_true Bool.not_false afld aload astore apack alen_str alen_ro alen_slc alen_nil new_get set_get ite_true ite_false Option.map_some Option.bind_some ibin isShift Nat.add_zero Nat.zero_add List.length_cons List.length_nil List.drop_zero List.drop_succ_cons List.take_succ_cons List.take_zero if_true if_false setL List.set_cons_zero List.set_cons_succ List.all_cons List.all_nil one_int one_bool one_str one_nil one_ptr one_slc one_ro one_rop one_fn Bool.and_self Bool.and_true true_and and_true and_self Bool.false_eq_true post_ret post_normal resAll resOne packR Option.some.injEq exists_eq_left' List.map_cons List.map_nil List.nil_append List.append_nil List.cons_append d_nil d_cons k_nil k_cons g_op g_same g_new avBlock forall_eq' List.getElem?_cons_succ List.getElem?_cons_zero List.getElem?_nil okind gOk bne false_imp_iff forall_const imp_self implies_true true_imp_iff i_callG

def check2F (r : Lv → Bool) (t : Tm) : Int := if (partT 20000 500 t).1 > 20000 ∨ (partT 20000 500 t).2 > 500 then 2 else if allF (formF r) t = false then 10 else 0
def size2F (r : Lv → Bool) (t : Tm) : Int := if check2F r t = 0 then (partT 20000 500 t).1 else 0

set_option maxRecDepth 100000 in
theorem check2_ok (r : Lv → Bool) (t : Tm) (hall : Tm.All (Fine2 r) t) (cells : List AV) (hT : TmR t cells) (H : AHeap) :
    SCall Try.prog 29 [.agg cells] H fun x H' => x = aint (check2F r t) ∧ H' = H := by
  refine SCall.val (SCall.intro mixed cf29 ?_)
  have hT' := hT
  obtain ⟨lx, kx, ls, cs, rfl, hl1, hl2, hk1, hk2⟩ := hT.six
  simp -implicitDefEqProofs only [c29, go_sem, Nat.reduceEqDiff, Nat.reduceAdd, Nat.reduceLeDiff, ↓reduceIte, reduceCtorEq, Int.reduceBEq, Int.reduceBNe, Int.reduceLT, Int.reduceLE, Int.reduceGT, Int.reduceGE, Int.reduceNeg, Int.reduceAdd, Int.reduceSub, Nat.reduceMul, Nat.reduceLT, Int.reduceToNat, hk1.one, hl1.one, hk1.cells, hl1.cells]
  refine i_callA (fs := []) (cs := []) (fid := 85) ?_ ?_ (part_ok t _ hT' 20000 500 (by omega) (by omega) _) ?_
  · rfl
  · simp -implicitDefEqProofs only [go_sem, Nat.reduceEqDiff, Nat.reduceAdd, Nat.reduceLeDiff, ↓reduceIte, reduceCtorEq, Int.reduceBEq, Int.reduceBNe, Int.reduceLT, Int.reduceLE, Int.reduceGT, Int.reduceGE, Int.reduceNeg, Int.reduceAdd, Int.reduceSub, Nat.reduceMul, Nat.reduceLT, Int.reduceToNat]
  rintro x H3 ⟨rfl, rfl⟩
  by_cases g1 : (partT 20000 500 t).1 > 20000
  · simp -implicitDefEqProofs only [go_sem, Nat.reduceEqDiff, Nat.reduceAdd, Nat.reduceLeDiff, ↓reduceIte, reduceCtorEq, Int.reduceBEq, Int.reduceBNe, Int.reduceLT, Int.reduceLE, Int.reduceGT, Int.reduceGE, Int.reduceNeg, Int.reduceAdd, Int.reduceSub, Nat.reduceMul, Nat.reduceLT, Int.reduceToNat, g1]
    exact ⟨by simp only [check2F, g1, true_or, if_true], ext_new H _⟩
  by_cases g2 : (partT 20000 500 t).2 > 500
  · simp -implicitDefEqProofs only [go_sem, Nat.reduceEqDiff, Nat.reduceAdd, Nat.reduceLeDiff, ↓reduceIte, reduceCtorEq, Int.reduceBEq, Int.reduceBNe, Int.reduceLT, Int.reduceLE, Int.reduceGT, Int.reduceGE, Int.reduceNeg, Int.reduceAdd, Int.reduceSub, Nat.reduceMul, Nat.reduceLT, Int.reduceToNat, g1, g2]
    exact ⟨by simp only [check2F, g2, or_true, if_true], ext_new H _⟩
  simp -implicitDefEqProofs only [go_sem, Nat.reduceEqDiff, Nat.reduceAdd, Nat.reduceLeDiff, ↓reduceIte, reduceCtorEq, Int.reduceBEq, Int.reduceBNe, Int.reduceLT, Int.reduceLE, Int.reduceGT, Int.reduceGE, Int.reduceNeg, Int.reduceAdd, Int.reduceSub, Nat.reduceMul, Nat.reduceLT, Int.reduceToNat, g1, g2]
  refine i_callA (fs := []) (cs := []) (fid := 87) ?_ ?_ (formed2_ok r t hall _ hT' _) ?_
  · rfl
  · simp -implicitDefEqProofs only [go_sem, Nat.reduceEqDiff, Nat.reduceAdd, Nat.reduceLeDiff, ↓reduceIte, reduceCtorEq, Int.reduceBEq, Int.reduceBNe, Int.reduceLT, Int.reduceLE, Int.reduceGT, Int.reduceGE, Int.reduceNeg, Int.reduceAdd, Int.reduceSub, Nat.reduceMul, Nat.reduceLT, Int.reduceToNat]
  rintro x H3 ⟨rfl, rfl⟩
  cases hf : allF (formF r) t with
  | false =>
    simp -implicitDefEqProofs only [go_sem, Nat.reduceEqDiff, Nat.reduceAdd, Nat.reduceLeDiff, ↓reduceIte, reduceCtorEq, Int.reduceBEq, Int.reduceBNe, Int.reduceLT, Int.reduceLE, Int.reduceGT, Int.reduceGE, Int.reduceNeg, Int.reduceAdd, Int.reduceSub, Nat.reduceMul, Nat.reduceLT, Int.reduceToNat]
    exact ⟨by simp only [check2F, g1, g2, hf, or_self, if_false, if_true], ext_new H _⟩
  | true =>
    simp -implicitDefEqProofs only [go_sem, Nat.reduceEqDiff, Nat.reduceAdd, Nat.reduceLeDiff, ↓reduceIte, reduceCtorEq, Int.reduceBEq, Int.reduceBNe, Int.reduceLT, Int.reduceLE, Int.reduceGT, Int.reduceGE, Int.reduceNeg, Int.reduceAdd, Int.reduceSub, Nat.reduceMul, Nat.reduceLT, Int.reduceToNat]
    exact ⟨by simp only [check2F, g1, g2, hf, or_self, if_false, Bool.true_eq_false], ext_new H _⟩

set_option maxRecDepth 100000 in
theorem size2_ok (r : Lv → Bool) (t : Tm) (hall : Tm.All (Fine2 r) t) (cells : List AV) (hT : TmR t cells) (H : AHeap) :
    SCall Try.prog 26 [.agg cells] H fun x H' => x = aint (size2F r t) ∧ H' = H := by
  refine SCall.val (SCall.intro mixed cf26 ?_)
  have hT' := hT
  obtain ⟨lx, kx, ls, cs, rfl, hl1, hl2, hk1, hk2⟩ := hT.six
  simp -implicitDefEqProofs only [c26, go_sem, Nat.reduceEqDiff, Nat.reduceAdd, Nat.reduceLeDiff, ↓reduceIte, reduceCtorEq, Int.reduceBEq, Int.reduceBNe, Int.reduceLT, Int.reduceLE, Int.reduceGT, Int.reduceGE, Int.reduceNeg, Int.reduceAdd, Int.reduceSub, Nat.reduceMul, Nat.reduceLT, Int.reduceToNat, hk1.one, hl1.one, hk1.cells, hl1.cells]
  refine i_callA (fs := []) (cs := []) (fid := 29) ?_ ?_ (check2_ok r t hall _ hT' _) ?_
  · rfl
  · simp -implicitDefEqProofs only [go_sem, Nat.reduceEqDiff, Nat.reduceAdd, Nat.reduceLeDiff, ↓reduceIte, reduceCtorEq, Int.reduceBEq, Int.reduceBNe, Int.reduceLT, Int.reduceLE, Int.reduceGT, Int.reduceGE, Int.reduceNeg, Int.reduceAdd, Int.reduceSub, Nat.reduceMul, Nat.reduceLT, Int.reduceToNat]
  rintro x H3 ⟨rfl, rfl⟩
  by_cases hz : check2F r t = 0
  · rw [hz]
    simp -implicitDefEqProofs only [go_sem, Nat.reduceEqDiff, Nat.reduceAdd, Nat.reduceLeDiff, ↓reduceIte, reduceCtorEq, Int.reduceBEq, Int.reduceBNe, Int.reduceLT, Int.reduceLE, Int.reduceGT, Int.reduceGE, Int.reduceNeg, Int.reduceAdd, Int.reduceSub, Nat.reduceMul, Nat.reduceLT, Int.reduceToNat]
    refine i_callA (fs := []) (cs := []) (fid := 85) ?_ ?_ (part_ok t _ hT' 20000 500 (by omega) (by omega) _) ?_
    · rfl
    · simp -implicitDefEqProofs only [go_sem, Nat.reduceEqDiff, Nat.reduceAdd, Nat.reduceLeDiff, ↓reduceIte, reduceCtorEq, Int.reduceBEq, Int.reduceBNe, Int.reduceLT, Int.reduceLE, Int.reduceGT, Int.reduceGE, Int.reduceNeg, Int.reduceAdd, Int.reduceSub, Nat.reduceMul, Nat.reduceLT, Int.reduceToNat]
    rintro x H3 ⟨rfl, rfl⟩
    simp -implicitDefEqProofs only [go_sem, Nat.reduceEqDiff, Nat.reduceAdd, Nat.reduceLeDiff, ↓reduceIte, reduceCtorEq, Int.reduceBEq, Int.reduceBNe, Int.reduceLT, Int.reduceLE, Int.reduceGT, Int.reduceGE, Int.reduceNeg, Int.reduceAdd, Int.reduceSub, Nat.reduceMul, Nat.reduceLT, Int.reduceToNat]
    exact ⟨by simp only [size2F, hz, if_true], ext_new H _⟩
  · simp -implicitDefEqProofs only [go_sem, Nat.reduceEqDiff, Nat.reduceAdd, Nat.reduceLeDiff, ↓reduceIte, reduceCtorEq, Int.reduceBEq, Int.reduceBNe, Int.reduceLT, Int.reduceLE, Int.reduceGT, Int.reduceGE, Int.reduceNeg, Int.reduceAdd, Int.reduceSub, Nat.reduceMul, Nat.reduceLT, Int.reduceToNat, bne_of hz]
    exact ⟨by simp only [size2F, hz, if_false], ext_new H _⟩

/-! ### The two counts are one -/
theorem fit_part : ∀ t, ∀ c high, 0 ≤ c → 0 ≤ high → ((fitT c high t).1 = true → (fitT c high t).2 = c + (partT (20000 - c) (501 - high) t).1 ∧ (partT (20000 - c) (501 - high) t).1 ≤ 20000 - c ∧ (partT (20000 - c) (501 - high) t).2 ≤ 501 - high) ∧
    ((fitT c high t).1 = false → partT (20000 - c) (501 - high) t = (1073741824, 1073741824)) := by
  refine Tm.rule fun f n hd s lv ks ih c high hc hh => ?_
  simp only [fitT, partT]
  by_cases h1 : c + 1 > 20000 ∨ high > 500
  · rw [if_pos h1, if_pos (by omega)]
    simp
  rw [if_neg h1, if_neg (by omega)]
  have key : ∀ (ks' : List Tm), (∀ k ∈ ks', k ∈ ks) → ∀ n h, 1 ≤ n → n ≤ 20000 - c → 0 ≤ h → h < 501 - high →
      ((fitK (c + n) (high + 1) ks').1 = true → (fitK (c + n) (high + 1) ks').2 = c + (partK (20000 - c) (501 - high) n h ks').1 ∧ (partK (20000 - c) (501 - high) n h ks').1 ≤ 20000 - c ∧ (partK (20000 - c) (501 - high) n h ks').2 ≤ 501 - high) ∧
      ((fitK (c + n) (high + 1) ks').1 = false → partK (20000 - c) (501 - high) n h ks' = (1073741824, 1073741824)) := by
    intro ks'
    induction ks' with
    | nil => intro _ n h k1 k2 k3 k4; simp only [fitK, partK]; simp; omega
    | cons k ks' ih' =>
      intro hm n h k1 k2 k3 k4
      obtain ⟨q1, q2⟩ := ih k (hm k (List.mem_cons_self ..)) (c + n) (high + 1) (by omega) (by omega)
      rw [show 20000 - (c + n) = 20000 - c - n by omega, show 501 - (high + 1) = 501 - high - 1 by omega] at q1 q2
      simp only [fitK, partK]
      obtain ⟨b1, b2, b3, b4⟩ := part_bound k (20000 - c - n) (501 - high - 1) (by omega) (by omega)
      cases hf : (fitT (c + n) (high + 1) k).1 with
      | true =>
        obtain ⟨q3, q4, q5⟩ := q1 hf
        generalize hp : partT (20000 - c - n) (501 - high - 1) k = p at *
        have hno : ¬ (n + p.1 > 20000 - c ∨ (if p.2 > h then p.2 else h) ≥ 501 - high) := by
          by_cases hc2 : p.2 > h
          · rw [if_pos hc2]; omega
          · rw [if_neg hc2]; omega
        rw [if_neg hno]
        simp only [if_true]
        rw [q3, show c + n + p.1 = c + (n + p.1) by omega]
        refine ih' (fun k hk => hm k (List.mem_cons_of_mem _ hk)) _ _ (by omega) (by omega) ?_ ?_
        · by_cases hc2 : p.2 > h
          · rw [if_pos hc2]; omega
          · rw [if_neg hc2]; omega
        · by_cases hc2 : p.2 > h
          · rw [if_pos hc2]; omega
          · rw [if_neg hc2]; omega
      | false =>
        rw [q2 hf]
        have hyes : n + (1073741824 : Int) > 20000 - c ∨ (if (1073741824 : Int) > h then 1073741824 else h) ≥ 501 - high := .inl (by omega)
        simp only
        rw [if_pos hyes]
        simp
  exact key ks (fun _ h => h) 1 0 (by omega) (by omega) (by omega) (by omega)

theorem check_same (r : Lv → Bool) (t : Tm) : check2F r t = checkF r t := by
  obtain ⟨h1, h2⟩ := fit_part t 0 1 (by omega) (by omega)
  rw [show (20000 : Int) - 0 = 20000 by omega, show (501 : Int) - 1 = 500 by omega] at h1 h2
  unfold check2F checkF
  cases hf : (fitT 0 1 t).1 with
  | true =>
    obtain ⟨_, k2, k3⟩ := h1 hf
    rw [if_neg (by omega)]
    simp
  | false =>
    rw [h2 hf]
    simp

theorem size_same (r : Lv → Bool) (t : Tm) : size2F r t = sizeF r t := by
  unfold size2F sizeF
  rw [check_same]
  split
  · rename_i h
    obtain ⟨h1, _⟩ := fit_part t 0 1 (by omega) (by omega)
    rw [show (20000 : Int) - 0 = 20000 by omega, show (501 : Int) - 1 = 500 by omega] at h1
    have := (h1 (check_fit h)).1
    omega
  · rfl

end Go.Proofs.Ytooaiddfokbffaa.E

/- Terms in blocks of one's own. Conditions: none. -/
set_option linter.unusedVariables false
set_option linter.unusedSimpArgs false
namespace Go.Proofs.Ytooaiddfokbffaa.E
open Go Go.Proofs

/-- What is there stays. -/
def Sub (H H' : AHeap) : Prop := ∀ b o, H.get b = some o → H'.get b = some o
def Wf (H : AHeap) : Prop := ∀ b o, H.get b = some o → b < H.next

theorem Sub.refl (H : AHeap) : Sub H H := fun _ _ h => h
theorem Sub.trans {H H1 H2 : AHeap} (h : Sub H H1) (k : Sub H1 H2) : Sub H H2 := fun b o hb => k b o (h b o hb)
theorem Wf.new {H : AHeap} (h : Wf H) (o : AObj) : Wf (H.new o) := fun b q hb => by
  rw [new_get] at hb
  rw [new_next]
  split at hb
  · rename_i e; omega
  · have := h b q hb; omega
theorem Wf.set {H : AHeap} (h : Wf H) {b : Nat} (hb : b < H.next) (o : AObj) : Wf (H.set b o) := fun x q hx => by
  rw [set_get] at hx
  rw [set_next]
  split at hx
  · rename_i e; omega
  · exact h x q hx
theorem Sub.new {H : AHeap} (h : Wf H) (o : AObj) : Sub H (H.new o) := fun b q hb => by
  rw [new_get, if_neg (by have := h b q hb; omega)]
  exact hb
theorem Wf.empty : Wf AHeap.empty := fun b o h => by cases h

theorem Frz.mono {H H' : AHeap} (hs : Sub H H') {x y : AV} (h : Frz H x y) : Frz H' x y := by
  induction h with
  | v x => exact .v x
  | slc b off es len lo ex l cs g hb hg hz ih => exact .slc b off es len lo ex l cs g (hs b _ hb) hg ih
  | ptr b off l cs hb hn hz ih => exact .ptr b off l cs (hs b _ hb) hn ih
  | ro len lo ex l cs hn hz ih => exact .ro len lo ex l cs hn ih
  | fn f a b a' b' hn hn' h1 h2 ih1 ih2 => exact .fn f a b a' b' hn hn' ih1 ih2
  | agg l cs hn hz ih => exact .agg l cs hn ih

/-- Cells that are frozen, one by one. -/
def FrzL (H : AHeap) (xs ys : List AV) : Prop := ys.length = xs.length ∧ ∀ (i : Nat) (x y : AV), xs[i]? = some x → ys[i]? = some y → Frz H x y

theorem FrzL.mono {H H' : AHeap} (hs : Sub H H') {xs ys : List AV} (h : FrzL H xs ys) : FrzL H' xs ys := ⟨h.1, fun i x y h1 h2 => (h.2 i x y h1 h2).mono hs⟩
theorem FrzL.nil (H : AHeap) : FrzL H [] [] := ⟨rfl, fun i x y h => by simp at h⟩
theorem FrzL.cons {H : AHeap} {x y : AV} {xs ys : List AV} (h : Frz H x y) (k : FrzL H xs ys) : FrzL H (x :: xs) (y :: ys) := by
  refine ⟨by simp [k.1], fun i a b h1 h2 => ?_⟩
  cases i with
  | zero => simp at h1 h2; subst h1 h2; exact h
  | succ i => exact k.2 i a b (by simpa using h1) (by simpa using h2)
theorem FrzL.append {H : AHeap} {xs ys xs' ys' : List AV} (h : FrzL H xs ys) (k : FrzL H xs' ys') : FrzL H (xs ++ xs') (ys ++ ys') := by
  refine ⟨by simp [h.1, k.1], fun i a b h1 h2 => ?_⟩
  rcases Nat.lt_or_ge i xs.length with hi | hi
  · rw [List.getElem?_append_left hi] at h1
    rw [List.getElem?_append_left (by rw [h.1]; exact hi)] at h2
    exact h.2 i a b h1 h2
  · rw [List.getElem?_append_right hi] at h1
    rw [List.getElem?_append_right (by rw [h.1]; exact hi), h.1] at h2
    exact k.2 _ a b h1 h2

/-- A slice of a whole block of one's own, frozen. -/
theorem Frz.block {H : AHeap} {b : Nat} {l cs : List AV} (hb : H.get b = some (.cells l)) (h : FrzL H l cs) (es len lo : Nat) (ex : Bool) : Frz H (.slc b 0 es len lo ex) (.ro len lo ex cs) := by
  refine .slc b 0 es len lo ex l cs (fun i => l.getD i uv) hb (fun i y hy => ?_) (fun i y hy => ?_)
  · have hi : i < l.length := by rw [← h.1]; exact (List.getElem?_eq_some_iff.1 hy).1
    rw [Nat.zero_add, List.getElem?_eq_getElem hi]
    simp [hi]
  · have hi : i < l.length := by rw [← h.1]; exact (List.getElem?_eq_some_iff.1 hy).1
    refine h.2 i _ y ?_ hy
    rw [List.getElem?_eq_getElem hi]
    simp [hi]

def Rep (H : AHeap) (cells : List AV) (t : Tm) : Prop := ∃ ys, FrzL H cells ys ∧ TmR t ys

theorem Rep.mono {H H' : AHeap} (hs : Sub H H') {cells : List AV} {t : Tm} (h : Rep H cells t) : Rep H' cells t := let ⟨ys, h1, h2⟩ := h; ⟨ys, h1.mono hs, h2⟩

/-- A call that reads a term of one's own, and answers with a plain value. -/
theorem Rep.call {f : FuncId} {R : AV → Prop} {H G : AHeap} {cells : List AV} {t : Tm} (hr : Rep G cells t) (hG : Sub G H) (hs : ∀ x, R x → ∃ v, x = .v v)
    (h : ∀ ys, TmR t ys → SCall Try.prog f [.agg ys] AHeap.empty fun x H' => R x ∧ H' = AHeap.empty) : SCall Try.prog f [.agg cells] H fun x H' => R x ∧ H' = H := by
  obtain ⟨ys, h1, h2⟩ := hr.mono hG
  refine SCall.frame ((h ys h2).mono fun x H' hx => hx.1) hs fun e w us hH hL => ?_
  exact frz_list (args := [.agg cells]) (args' := [.agg ys]) rfl (fun i x y hx hy => by
    cases i with
    | zero => simp at hx hy; subst hx hy; exact .agg _ _ h1.1 h1.2
    | succ i => simp at hx) hH hL

def setTm : Tm := .mk 2 0 false (ByteArray.mk #[]) [⟨0, []⟩] []
def fstTm (t : Tm) : Tm := .mk 8 0 false (ByteArray.mk #[]) [] [t]
def appTm (a b : Tm) : Tm := .mk 5 0 false (ByteArray.mk #[]) [] [a, b]

abbrev nils : AV := .v (.slice none 0 0)
abbrev nostr : AV := .v (.string (ByteArray.mk #[]))

theorem FrzL.plain (H : AHeap) : FrzL H [aint 0, nils] [aint 0, nils] := FrzL.cons (.v _) (FrzL.cons (.v _) (FrzL.nil H))

theorem FrzL.len {H : AHeap} {xs ys : List AV} (h : FrzL H xs ys) : ys.length = xs.length := h.1

theorem rep_fst {H : AHeap} {b : Nat} {c : List AV} {t : Tm} (hb : H.get b = some (.cells c)) (h : Rep H c t) : Rep H [aint 8, aint 0, abl false, nostr, nils, .slc b 0 6 1 1 true] (fstTm t) := by
  obtain ⟨ys, h1, h2⟩ := h
  refine ⟨[aint 8, aint 0, abl false, nostr, nils, .ro 1 1 true ys], ?_, ?_⟩
  · exact .cons (.v _) (.cons (.v _) (.cons (.v _) (.cons (.v _) (.cons (.v _) (.cons (Frz.block hb h1 6 1 1 true) (.nil H))))))
  · simp only [fstTm, TmR]
    refine ⟨nils, .ro 1 1 true ys, [], ys, rfl, .inl ⟨rfl, rfl⟩, trivial, .inr ⟨1, true, rfl, Nat.le_refl _⟩, ?_⟩
    simp only [KsR]
    exact ⟨by rw [List.take_of_length_le (by rw [h2.len]; omega)]; exact h2, trivial⟩

theorem rep_app {H : AHeap} {b : Nat} {c1 c2 : List AV} {t1 t2 : Tm} (hb : H.get b = some (.cells (c1 ++ c2))) (h1 : Rep H c1 t1) (h2 : Rep H c2 t2) : Rep H [aint 5, aint 0, abl false, nostr, nils, .slc b 0 6 2 2 true] (appTm t1 t2) := by
  obtain ⟨ys, k1, k2⟩ := h1
  obtain ⟨zs, m1, m2⟩ := h2
  refine ⟨[aint 5, aint 0, abl false, nostr, nils, .ro 2 2 true (ys ++ zs)], ?_, ?_⟩
  · exact .cons (.v _) (.cons (.v _) (.cons (.v _) (.cons (.v _) (.cons (.v _) (.cons (Frz.block hb (k1.append m1) 6 2 2 true) (.nil H))))))
  · simp only [appTm, TmR]
    refine ⟨nils, .ro 2 2 true (ys ++ zs), [], ys ++ zs, rfl, .inl ⟨rfl, rfl⟩, trivial, .inr ⟨2, true, rfl, Nat.le_refl _⟩, ?_⟩
    simp only [KsR]
    refine ⟨by rw [List.take_append_of_le_length (by rw [k2.len]; omega), List.take_of_length_le (by rw [k2.len]; omega)]; exact k2, ?_, trivial⟩
    rw [List.drop_append_of_le_length (by rw [k2.len]; omega), List.drop_of_length_le (by rw [k2.len]; omega), List.nil_append, List.take_of_length_le (by rw [m2.len]; omega)]
    exact m2

theorem rep_set {H : AHeap} {b : Nat} (hb : H.get b = some (.cells [aint 0, nils])) : Rep H [aint 2, aint 0, abl false, nostr, .slc b 0 2 1 1 true, nils] setTm := by
  refine ⟨[aint 2, aint 0, abl false, nostr, .ro 1 1 true [aint 0, nils], nils], ?_, ?_⟩
  · exact .cons (.v _) (.cons (.v _) (.cons (.v _) (.cons (.v _) (.cons (Frz.block hb (FrzL.plain H) 2 1 1 true) (.cons (.v _) (.nil H))))))
  · simp only [setTm, TmR]
    refine ⟨.ro 1 1 true [aint 0, nils], nils, [aint 0, nils], [], rfl, .inr ⟨1, true, rfl, Nat.le_refl _⟩, ?_, .inl ⟨rfl, rfl⟩, trivial⟩
    simp only [LvsR]
    exact ⟨⟨nils, [], rfl, .inl ⟨rfl, rfl⟩, trivial⟩, trivial⟩

theorem Rep.len {H : AHeap} {cells : List AV} {t : Tm} (h : Rep H cells t) : cells.length = 6 := by
  obtain ⟨ys, h1, h2⟩ := h
  rw [← h1.1, h2.len]

/-- Cells of a term, one by one, none of them more than one. -/
theorem Rep.six {H : AHeap} {cells : List AV} {t : Tm} (h : Rep H cells t) : ∃ a b c d e f, cells = [a, b, c, d, e, f] ∧ a.one = true ∧ b.one = true ∧ c.one = true ∧ d.one = true ∧ e.one = true ∧ f.one = true := by
  have hl := h.len
  obtain ⟨ys, h1, h2⟩ := h
  obtain ⟨lx, kx, ls, cs, rfl, hl1, _, hk1, _⟩ := h2.six
  match cells, hl with
  | [a, b, c, d, e, f], _ =>
    have key : ∀ {x y : AV}, Frz H x y → y.one = true → x.one = true := fun {x y} hz hy => by
      cases hz <;> first | exact hy | rfl
    exact ⟨a, b, c, d, e, f, rfl, key (h1.2 0 _ _ rfl rfl) rfl, key (h1.2 1 _ _ rfl rfl) rfl, key (h1.2 2 _ _ rfl rfl) rfl, key (h1.2 3 _ _ rfl rfl) rfl, key (h1.2 4 _ _ rfl rfl) hl1.one, key (h1.2 5 _ _ rfl rfl) hk1.one⟩

/-- The block of a call's own start is known to be well laid. -/
theorem SCall.introW {P : Program} (hm : P.follows .mixedOrders = true) {f : FuncId} {plans : List (Nat × List (Nat × List Nat))} {F : AFn} (hc : compFn P f plans = some F) {args : List AV} {H : AHeap} {R : AV → AHeap → Prop}
    (h : Wf H → swp P F.code (postF F.res R) ⟨argTm args, H⟩) : SCall P f args H R := by
  by_cases hw : Wf H
  · exact SCall.intro hm hc (h hw)
  · obtain ⟨b, hb⟩ := Classical.not_forall.1 hw
    obtain ⟨o, ho⟩ := Classical.not_forall.1 hb
    unfold compFn at hc
    split at hc
    case h_2 => cases hc
    rename_i fn hf
    split at hc
    case h_2 => cases hc
    rename_i c hbd
    split at hc
    case isTrue => cases hc
    rename_i hn
    refine ⟨⟨fn, hf, by simpa using hn, by rw [hbd]; rfl⟩, fun e w us hH hL => absurd hH.get fun hg => ?_⟩
    exact hw fun b o hbo => hg b o hbo

end Go.Proofs.Ytooaiddfokbffaa.E

/- Terms are made, as the code makes them; the level 0 is canonical. Conditions: none. -/
set_option linter.unusedVariables false
set_option linter.unusedSimpArgs false
namespace Go.Proofs.Ytooaiddfokbffaa.E
open Go Go.Proofs
attribute [local go_sem] s_seq s_ops s_draw s_block s_skip s_ret s_exit i_nil i_cons i_run i_runG s_condQ c_true c_false aop ev_t ev_c updO_at updO_no upd_at t_normal t_ret t_exit b_normal b_ret b_exit a_some ac_v ac_agg ac_ptr ac_slc ac_ro ac_rop ac_fn new_next set_next argTm_zero argTm_succ argTm_nil ab_bool ab_uv beq_self_eq_true Option.some_beq_some Bool.not_not beq_iff_eq decide_true decide_false Bool.not_true Bool.not_false afld aload astore apack alen_str alen_ro alen_slc alen_nil new_get set_get ite_true ite_false Option.map_some Option.bind_some ibin isShift Nat.add_zero Nat.zero_add List.length_cons List.length_nil List.drop_zero List.drop_succ_cons List.take_succ_cons List.take_zero if_true if_false setL List.set_cons_zero List.set_cons_succ List.all_cons List.all_nil one_int one_bool one_str one_nil one_ptr one_slc one_ro one_rop one_fn Bool.and_self Bool.and_true true_and and_true and_self Bool.false_eq_true post_ret post_normal resAll resOne packR Option.some.injEq exists_eq_left' List.map_cons List.map_nil List.nil_append List.append_nil List.cons_append d_nil d_cons k_nil k_cons g_op g_same g_new avBlock forall_eq' List.getElem?_cons_succ List.getElem?_cons_zero List.getElem?_nil okind gOk bne false_imp_iff forall_const imp_self implies_true true_imp_iff i_callG

theorem SCall.wf {P : Program} {f : FuncId} {args : List AV} {H : AHeap} {R : AV → AHeap → Prop} (h : SCall P f args H R) : SCall P f args H fun x H' => R x H' ∧ Wf H' :=
  ⟨h.1, fun e w us h1 h2 => (h.2 e w us h1 h2).mono fun en w' ⟨u, x, H', e', a, b, c, d⟩ => ⟨u, x, H', e', a, ⟨b, c.get⟩, c, d⟩⟩

set_option maxRecDepth 100000 in
theorem set_ok (H : AHeap) : SCall Try.prog 23 [aint 0] H fun x H' => ((∃ b, H.next ≤ b ∧ x = .agg [aint 2, aint 0, abl false, nostr, .slc b 0 2 1 1 true, nils] ∧ H'.get b = some (.cells [aint 0, nils])) ∧ Ext H H') ∧ Wf H' := by
  refine SCall.wf (SCall.intro mixed cf23 ?_)
  have e1 : ¬ H.next = H.next + 1 := by omega
  have e2 : ¬ H.next + 1 = H.next := by omega
  simp -implicitDefEqProofs only [c23, go_sem, Nat.reduceEqDiff, Nat.reduceAdd, Nat.reduceLeDiff, ↓reduceIte, reduceCtorEq, Int.reduceBEq, Int.reduceBNe, Int.reduceLT, Int.reduceLE, Int.reduceGT, Int.reduceGE, Int.reduceNeg, Int.reduceAdd, Int.reduceSub, Nat.reduceMul, Nat.reduceLT, Int.reduceToNat, afill, e1, e2]
  refine ⟨⟨H.next + 1, by omega, rfl, ?_⟩, ?_, fun b hb => ?_⟩
  · simp -implicitDefEqProofs only [go_sem, Nat.reduceEqDiff, Nat.reduceAdd, Nat.reduceLeDiff, ↓reduceIte, reduceCtorEq, Int.reduceBEq, Int.reduceBNe, Int.reduceLT, Int.reduceLE, Int.reduceGT, Int.reduceGE, Int.reduceNeg, Int.reduceAdd, Int.reduceSub, Nat.reduceMul, Nat.reduceLT, Int.reduceToNat, e1, e2]
  · simp -implicitDefEqProofs only [go_sem, Nat.reduceEqDiff, Nat.reduceAdd, Nat.reduceLeDiff, ↓reduceIte, reduceCtorEq, Int.reduceBEq, Int.reduceBNe, Int.reduceLT, Int.reduceLE, Int.reduceGT, Int.reduceGE, Int.reduceNeg, Int.reduceAdd, Int.reduceSub, Nat.reduceMul, Nat.reduceLT, Int.reduceToNat]; omega
  · have k1 : ¬ b = H.next := by omega
    have k2 : ¬ b = H.next + 1 := by omega
    simp -implicitDefEqProofs only [go_sem, Nat.reduceEqDiff, Nat.reduceAdd, Nat.reduceLeDiff, ↓reduceIte, reduceCtorEq, Int.reduceBEq, Int.reduceBNe, Int.reduceLT, Int.reduceLE, Int.reduceGT, Int.reduceGE, Int.reduceNeg, Int.reduceAdd, Int.reduceSub, Nat.reduceMul, Nat.reduceLT, Int.reduceToNat, k1, k2]

set_option maxRecDepth 100000 in
theorem app_ok (H : AHeap) (a1 a2 a3 a4 a5 a6 b1 b2 b3 b4 b5 b6 : AV) (ho1 : a1.one = true ∧ a2.one = true ∧ a3.one = true ∧ a4.one = true ∧ a5.one = true ∧ a6.one = true) (ho2 : b1.one = true ∧ b2.one = true ∧ b3.one = true ∧ b4.one = true ∧ b5.one = true ∧ b6.one = true) :
    SCall Try.prog 25 [.agg [a1, a2, a3, a4, a5, a6], .agg [b1, b2, b3, b4, b5, b6]] H fun x H' => ((∃ b, H.next ≤ b ∧ x = .agg [aint 5, aint 0, abl false, nostr, nils, .slc b 0 6 2 2 true] ∧ H'.get b = some (.cells ([a1, a2, a3, a4, a5, a6] ++ [b1, b2, b3, b4, b5, b6]))) ∧ Ext H H') ∧ Wf H' := by
  refine SCall.wf (SCall.intro mixed cf25 ?_)
  obtain ⟨p1, p2, p3, p4, p5, p6⟩ := ho1
  obtain ⟨q1, q2, q3, q4, q5, q6⟩ := ho2
  have e1 : ¬ H.next = H.next + 1 := by omega
  have e2 : ¬ H.next + 1 = H.next := by omega
  have e3 : ¬ H.next = H.next + 1 + 1 := by omega
  have e4 : ¬ H.next + 1 + 1 = H.next := by omega
  have e5 : ¬ H.next + 1 = H.next + 1 + 1 := by omega
  have e6 : ¬ H.next + 1 + 1 = H.next + 1 := by omega
  have e7 : ¬ H.next = H.next + 1 + 1 + 1 := by omega
  have e8 : ¬ H.next + 1 = H.next + 1 + 1 + 1 := by omega
  have e9 : ¬ H.next + 1 + 1 = H.next + 1 + 1 + 1 := by omega
  have e10 : ¬ H.next + 1 + 1 + 1 = H.next + 1 + 1 := by omega
  simp -implicitDefEqProofs only [c25, go_sem, Nat.reduceEqDiff, Nat.reduceAdd, Nat.reduceLeDiff, ↓reduceIte, reduceCtorEq, Int.reduceBEq, Int.reduceBNe, Int.reduceLT, Int.reduceLE, Int.reduceGT, Int.reduceGE, Int.reduceNeg, Int.reduceAdd, Int.reduceSub, Nat.reduceMul, Nat.reduceLT, Int.reduceToNat, afill, e1, e2, e3, e4, e5, e6, e7, e8, e9, e10, p1, p2, p3, p4, p5, p6, q1, q2, q3, q4, q5, q6]
  refine ⟨⟨H.next + 1 + 1 + 1, by omega, rfl, ?_⟩, ?_, fun b hb => ?_⟩
  · simp -implicitDefEqProofs only [go_sem, Nat.reduceEqDiff, Nat.reduceAdd, Nat.reduceLeDiff, ↓reduceIte, reduceCtorEq, Int.reduceBEq, Int.reduceBNe, Int.reduceLT, Int.reduceLE, Int.reduceGT, Int.reduceGE, Int.reduceNeg, Int.reduceAdd, Int.reduceSub, Nat.reduceMul, Nat.reduceLT, Int.reduceToNat, e1, e2, e3, e4, e5, e6, e7, e8, e9, e10]
  · simp -implicitDefEqProofs only [go_sem, Nat.reduceEqDiff, Nat.reduceAdd, Nat.reduceLeDiff, ↓reduceIte, reduceCtorEq, Int.reduceBEq, Int.reduceBNe, Int.reduceLT, Int.reduceLE, Int.reduceGT, Int.reduceGE, Int.reduceNeg, Int.reduceAdd, Int.reduceSub, Nat.reduceMul, Nat.reduceLT, Int.reduceToNat]; omega
  · have k1 : ¬ b = H.next := by omega
    have k2 : ¬ b = H.next + 1 := by omega
    have k3 : ¬ b = H.next + 1 + 1 := by omega
    have k4 : ¬ b = H.next + 1 + 1 + 1 := by omega
    simp -implicitDefEqProofs only [go_sem, Nat.reduceEqDiff, Nat.reduceAdd, Nat.reduceLeDiff, ↓reduceIte, reduceCtorEq, Int.reduceBEq, Int.reduceBNe, Int.reduceLT, Int.reduceLE, Int.reduceGT, Int.reduceGE, Int.reduceNeg, Int.reduceAdd, Int.reduceSub, Nat.reduceMul, Nat.reduceLT, Int.reduceToNat, k1, k2, k3, k4]

/-! ### Levels -/
def isBool (b : Bool) : Option (AV × AHeap) → Bool
  | some (.v (.bool c), _) => c == b
  | _ => false

theorem isBool_spec {b : Bool} {r : Option (AV × AHeap)} (h : isBool b r = true) : ∃ H', r = some (abl b, H') := by
  unfold isBool at h
  split at h
  · rename_i c H'
    rw [eq_of_beq h]
    exact ⟨H', rfl⟩
  · cases h

/-- A closed answer, in whatever heap. -/
theorem run_bool {f : FuncId} {args : List AV} {b : Bool} {m n : Nat} (h : isBool b (evF (tabAt tabL) m n f args AHeap.empty) = true) {args' : List AV} {H : AHeap} (ha : ∀ e w us, HRel e H w → LRel e w args' us → LRel Emb.empty w args us) :
    SCall Try.prog f args' H fun x H' => x = abl b ∧ H' = H := by
  obtain ⟨H', h1⟩ := isBool_spec h
  have := evF_sound mixed (T := tabAt tabL) (fun k F hk => tabAt_spec (Q := fun k F => ∃ pl, compFn Try.prog k pl = some F) tabL tabL_ok k F hk) m n f args AHeap.empty _ _ h1
  exact SCall.frame (R := fun x => x = abl b) (this.mono fun x H'' hx => hx.1) (fun x hx => ⟨_, hx⟩) ha

theorem can_nil : isBool true (evF (tabAt tabL) 100 40 173 [.agg [aint 0, nils]] AHeap.empty) = true := by kernel_rfl
theorem can2_nil : isBool true (evF (tabAt tabL) 100 40 132 [.agg [aint 0, nils]] AHeap.empty) = true := by kernel_rfl
theorem can_ro (lo : Nat) (ex : Bool) : isBool true (evF (tabAt tabL) 100 40 173 [.agg [aint 0, .ro 0 lo ex []]] AHeap.empty) = true := by kernel_rfl
theorem can2_ro (lo : Nat) (ex : Bool) : isBool true (evF (tabAt tabL) 100 40 132 [.agg [aint 0, .ro 0 lo ex []]] AHeap.empty) = true := by kernel_rfl

theorem frz_one {H : AHeap} {e : Emb} {w : World} {us : List Value} {x y : AV} (hH : HRel e H w) (h : Frz H x y) (hL : LRel e w [x] us) : LRel Emb.empty w [y] us :=
  frz_list (args := [x]) (args' := [y]) rfl (fun i a b ha hb => by
    cases i with
    | zero => simp at ha hb; subst ha hb; exact h
    | succ i => simp at ha) hH hL

theorem frz_lv (H : AHeap) {vx : AV} {vs : List AV} (h : SlR 0 vx vs) : (vx = nils ∧ Frz H (.agg [aint 0, vx]) (.agg [aint 0, nils])) ∨ ∃ lo ex, Frz H (.agg [aint 0, vx]) (.agg [aint 0, .ro 0 lo ex []]) := by
  rcases h with ⟨_, rfl⟩ | ⟨lo, ex, rfl, _⟩
  · refine .inl ⟨rfl, .agg _ _ rfl fun i x y hx hy => ?_⟩
    rw [hx] at hy
    injection hy with hy
    subst hy
    match i, hx with
    | 0, hx => simp at hx; subst hx; exact .v _
    | 1, hx => simp at hx; subst hx; exact .v _
  · refine .inr ⟨lo, ex, .agg _ _ rfl fun i x y hx hy => ?_⟩
    match i, hx, hy with
    | 0, hx, hy => simp at hx hy; subst hx hy; exact .v _
    | 1, hx, hy => simp at hx hy; subst hx hy; exact .ro _ _ _ _ _ (Nat.zero_le _) (fun i x y _ hy => by simp at hy)

def yes : Lv → Bool := fun _ => true

theorem canSpec0 : CanSpec yes ⟨0, []⟩ := by
  intro vx vs H h1 h2
  rcases frz_lv H h1 with ⟨_, hf⟩ | ⟨lo, ex, hf⟩
  · exact run_bool can_nil fun e w us hH hL => frz_one hH hf hL
  · exact run_bool (can_ro lo ex) fun e w us hH hL => frz_one hH hf hL

theorem canSpec20 : CanSpec2 yes ⟨0, []⟩ := by
  intro vx vs H h1 h2
  rcases frz_lv H h1 with ⟨_, hf⟩ | ⟨lo, ex, hf⟩
  · exact run_bool can2_nil fun e w us hH hL => frz_one hH hf hL
  · exact run_bool (can2_ro lo ex) fun e w us hH hL => frz_one hH hf hL

/-- Terms that are made here. -/
inductive Made : Tm → Prop
  | set : Made setTm
  | fst {t : Tm} (h : Made t) : Made (fstTm t)
  | app {a b : Tm} (h : Made a) (k : Made b) : Made (appTm a b)

theorem Made.fine {t : Tm} (h : Made t) : Tm.All (Fine yes) t := by
  induction h with
  | set => simp only [setTm, Tm.All, Tm.AllL, Fine, Tm.lv, Tm.kids]; exact ⟨⟨by simp, by simp, fun l hl => by simp at hl; subst hl; exact canSpec0⟩, trivial⟩
  | fst h ih => simp only [fstTm, Tm.All, Tm.AllL, Fine, Tm.lv, Tm.kids]; exact ⟨⟨by simp, by simp, fun l hl => by simp at hl⟩, ih, trivial⟩
  | app h k ih1 ih2 => simp only [appTm, Tm.All, Tm.AllL, Fine, Tm.lv, Tm.kids]; exact ⟨⟨by simp, by simp, fun l hl => by simp at hl⟩, ih1, ih2, trivial⟩

theorem Made.fine2 {t : Tm} (h : Made t) : Tm.All (Fine2 yes) t := by
  induction h with
  | set => simp only [setTm, Tm.All, Tm.AllL, Fine2, Tm.lv, Tm.kids]; exact ⟨⟨by simp, by simp, fun l hl => by simp at hl; subst hl; exact canSpec20⟩, trivial⟩
  | fst h ih => simp only [fstTm, Tm.All, Tm.AllL, Fine2, Tm.lv, Tm.kids]; exact ⟨⟨by simp, by simp, fun l hl => by simp at hl⟩, ih, trivial⟩
  | app h k ih1 ih2 => simp only [appTm, Tm.All, Tm.AllL, Fine2, Tm.lv, Tm.kids]; exact ⟨⟨by simp, by simp, fun l hl => by simp at hl⟩, ih1, ih2, trivial⟩

theorem Made.formed {t : Tm} (h : Made t) : allF (formF yes) t = true := by
  induction h with
  | set => rfl
  | fst h ih =>
    simp only [fstTm, allF, allK, ih, Bool.and_true]
    rfl
  | app h k ih1 ih2 =>
    simp only [appTm, allF, allK, ih1, ih2, Bool.and_true]
    rfl

theorem Made.check {t : Tm} (h : Made t) : checkF yes t = if (fitT 0 1 t).1 = false then 2 else 0 := by
  simp only [checkF, h.formed, Bool.true_eq_false, if_false]

def chain : Nat → Tm
  | 0 => setTm
  | n + 1 => fstTm (chain n)

theorem chain_made : ∀ n, Made (chain n)
  | 0 => .set
  | n + 1 => .fst (chain_made n)

theorem chain_fit : ∀ (n : Nat) (c high : Int), (fitT c high (chain n)).1 = decide (c + 1 + n ≤ 20000 ∧ high + n ≤ 500)
  | 0, c, high => by
    simp only [chain, setTm, fitT, fitK]
    by_cases h : c + 1 > 20000 ∨ high > 500
    · rw [if_pos h]; simp; omega
    · rw [if_neg h]; simp; omega
  | n + 1, c, high => by
    simp only [chain, fstTm, fitT, fitK]
    have ih := chain_fit n (c + 1) (high + 1)
    by_cases h : c + 1 > 20000 ∨ high > 500
    · rw [if_pos h]; simp; omega
    · rw [if_neg h]
      cases hf : (fitT (c + 1) (high + 1) (chain n)).1 with
      | true =>
        rw [hf] at ih
        simp only [if_true]
        have := of_decide_eq_true ih.symm
        simp; omega
      | false =>
        rw [hf] at ih
        simp only [Bool.false_eq_true, if_false]
        have := of_decide_eq_false ih.symm
        simp; omega

theorem size_made {t : Tm} (h : Made t) : (sizeF yes t > 0 → checkF yes t = 0) ∧ (¬ sizeF yes t > 0 → checkF yes t = 2) := by
  rw [h.check]
  unfold sizeF
  rw [h.check]
  cases hf : (fitT 0 1 t).1 with
  | true =>
    have := fit_bound t 0 1 hf
    simp
    omega
  | false => simp

end Go.Proofs.Ytooaiddfokbffaa.E

/- A term of the input, as a tree. Conditions: none. -/
set_option linter.unusedVariables false
set_option linter.unusedSimpArgs false
namespace Go.Proofs.Ytooaiddfokbffaa.E
open Go Go.Proofs

theorem mapM_at {α β : Type} {f : α → Option β} : ∀ (l : List α) (xs : List β), l.mapM f = some xs → xs.length = l.length ∧ ∀ (i : Nat) (x : α), l[i]? = some x → ∃ y, xs[i]? = some y ∧ f x = some y
  | [], xs, h => by
    simp at h
    subst h
    exact ⟨rfl, fun i x h => by simp at h⟩
  | a :: l, xs, h => by
    rw [List.mapM_cons] at h
    simp only [Option.bind_eq_bind, Option.bind_eq_some_iff, Option.pure_def, Option.some.injEq] at h
    obtain ⟨y, h1, ys, h2, rfl⟩ := h
    obtain ⟨h3, h4⟩ := mapM_at l ys h2
    refine ⟨by simp [h3], fun i x hx => ?_⟩
    cases i with
    | zero => simp at hx; subst hx; exact ⟨y, rfl, h1⟩
    | succ i => simpa using h4 i x (by simpa using hx)

theorem cells_at {w : World} {base : Nat} {a : Addr} {n : Nat} {vs : List Value} (h : w.cells? base a n = some vs) : vs.length = n ∧ ∀ (i : Nat) (u : Value), vs[i]? = some u → w.cell? (a.add i) = some u := by
  unfold World.cells? at h
  split at h
  · obtain ⟨h1, h2⟩ := mapM_at _ _ h
    rw [List.length_range] at h1
    refine ⟨h1, fun i u hu => ?_⟩
    have hi : i < n := by rw [← h1]; exact (List.getElem?_eq_some_iff.1 hu).1
    obtain ⟨y, h3, h4⟩ := h2 i i (by simp [hi])
    rw [hu] at h3
    injection h3 with h3
    rw [h3]
    exact h4
  · cases h

/-- What is read is of no more bulk than reaches. -/
def Wt {H : Type} (P : Program) (t : TypeId) (d : DataW H) : Prop := ∀ n ∈ d.weights P t, n ≤ reachBytes

theorem weightsAll_mem {H : Type} {P : Program} {e : TypeId} : ∀ {l : List (DataW H)} {d : DataW H}, d ∈ l → ∀ n ∈ d.weights P e, n ∈ DataW.weightsAll P e l
  | [], _, h, _, _ => by cases h
  | x :: r, d, h, n, hn => by
    simp only [DataW.weightsAll, List.mem_append]
    rcases List.mem_cons.1 h with rfl | h
    · exact .inl hn
    · exact .inr (weightsAll_mem h n hn)

/-- A slice's element, one by one, where the reading of the whole went well. -/
theorem trod_slice {H : Type} {enc : TypeId × Value → H} {P : Program} {w : World} {base : Nat} {sp : Nat → Bool} {held : Bool} {fuel : Nat} {t e : TypeId} (ht : P.underlying t = some (.slice e)) {v : Value} {d : DataW H} {ps : List MemPlace}
    (h : DataW.trod enc P w base sp held (fuel + 1) t [v] = some (d, ps)) (hwt : Wt P t d) :
    v = .slice none 0 0 ∨ ∃ (a : Addr) (len cap : Nat) (us : List Value), v = .slice (some a) len cap ∧ len ≤ cap ∧ cap ≤ maxLen ∧ us.length = len * P.cellsOf e ∧ (∀ (i : Nat) (u : Value), us[i]? = some u → w.cell? (a.add i) = some u) ∧
      (∀ i, i < len → ∃ d' p', DataW.trod enc P w base sp held fuel e ((us.drop (i * P.cellsOf e)).take (P.cellsOf e)) = some (d', p') ∧ Wt P e d') ∧ len * P.bytesOf e ≤ reachBytes := by
  cases v with
  | slice a len cap =>
    cases a with
    | none =>
      simp only [DataW.trod, ht] at h
      split at h <;> simp_all
    | some a =>
      simp only [DataW.trod, ht] at h
      split at h
      · rename_i hc
        obtain ⟨hc1, hc2, hc3⟩ := hc
        simp only [Option.bind_eq_some_iff] at h
        obtain ⟨elems, h2, hrest⟩ := h
        simp only [Option.map_eq_some_iff, Prod.mk.injEq] at hrest
        obtain ⟨rest, _, hd, _⟩ := hrest
        obtain ⟨h3, h4⟩ := mapM_at _ _ h2
        rw [List.length_range] at h3
        have hbulk : len * P.bytesOf e ≤ reachBytes := by
          have := hwt ((elems.length + rest.length) * P.bytesOf e) (by rw [← hd]; simp [DataW.weights, ht])
          refine Nat.le_trans (Nat.mul_le_mul_right _ ?_) this
          omega
        have key : ∀ i, i < len → ∃ vs, w.cells? base (a.add (i * P.cellsOf e)) (P.cellsOf e) = some vs ∧ vs.length = P.cellsOf e ∧ (∀ (j : Nat) (u : Value), vs[j]? = some u → w.cell? ((a.add (i * P.cellsOf e)).add j) = some u) ∧
            ∃ d' p', DataW.trod enc P w base sp held fuel e vs = some (d', p') ∧ Wt P e d' := by
          intro i hi
          obtain ⟨y, h5, h6⟩ := h4 i i (by simp [hi])
          simp only [Option.bind_eq_some_iff] at h6
          obtain ⟨vs, h7, h8⟩ := h6
          obtain ⟨h9, h10⟩ := cells_at h7
          refine ⟨vs, h7, h9, h10, y.1, y.2, h8, fun n hn => hwt n ?_⟩
          rw [← hd]
          simp only [DataW.weights, ht, List.mem_cons, List.mem_append]
          exact .inr (.inl (weightsAll_mem (List.mem_map_of_mem (List.mem_of_getElem? h5)) n hn))
        refine .inr ⟨a, len, cap, (List.range (len * P.cellsOf e)).map fun j => (w.cell? (a.add j)).getD undef, rfl, hc2, hc3, by simp, ?_, ?_, hbulk⟩
        · intro i u hu
          simp only [List.getElem?_map, Option.map_eq_some_iff] at hu
          obtain ⟨j, hj, rfl⟩ := hu
          rw [List.getElem?_eq_some_iff] at hj
          obtain ⟨hj1, hj2⟩ := hj
          simp at hj1 hj2
          subst hj2
          have hcpos : 0 < P.cellsOf e := Nat.pos_of_ne_zero fun h0 => by rw [h0] at hj1; omega
          obtain ⟨vs, q1, q2, q3, q4⟩ := key (i / P.cellsOf e) (Nat.div_lt_of_lt_mul (by rw [Nat.mul_comm]; exact hj1))
          have hr := Nat.mod_lt i hcpos
          have h5 := q3 (i % P.cellsOf e) _ (List.getElem?_eq_getElem (q2 ▸ hr))
          rw [addr_add_add, Nat.mul_comm, Nat.div_add_mod] at h5
          rw [h5]
          rfl
        · intro i hi
          obtain ⟨vs, q1, q2, q3, q4⟩ := key i hi
          have heq : (((List.range (len * P.cellsOf e)).map fun j => (w.cell? (a.add j)).getD undef).drop (i * P.cellsOf e)).take (P.cellsOf e) = vs := by
            apply List.ext_getElem?
            intro r
            rw [List.getElem?_take]
            split
            · rename_i hr
              have hlt : i * P.cellsOf e + r < len * P.cellsOf e := by
                have : (i + 1) * P.cellsOf e ≤ len * P.cellsOf e := Nat.mul_le_mul_right _ hi
                rw [Nat.add_mul] at this
                omega
              have hv := List.getElem?_eq_getElem (l := vs) (i := r) (q2 ▸ hr)
              have h5 := q3 r _ hv
              rw [addr_add_add] at h5
              rw [List.getElem?_drop, List.getElem?_map, List.getElem?_range hlt, hv]
              simp [h5]
            · rename_i hr
              rw [List.getElem?_eq_none (by omega)]
          rw [heq]
          exact q4
      · cases h
  | _ => simp [DataW.trod, ht] at h

theorem weightsEach_mem {H : Type} {P : Program} : ∀ {fs : List Field} {ds : List (DataW H)} {i : Nat} {f : Field} {d : DataW H}, fs[i]? = some f → ds[i]? = some d → ∀ n ∈ d.weights P f.type, n ∈ DataW.weightsEach P (fs.map (·.type)) ds
  | [], _, i, f, d, h, _, _, _ => by simp at h
  | _ :: _, [], i, f, d, _, h, _, _ => by simp at h
  | g :: fs, x :: ds, i, f, d, hf, hd, n, hn => by
    simp only [List.map_cons, DataW.weightsEach, List.mem_append]
    cases i with
    | zero => simp at hf hd; subst hf hd; exact .inl hn
    | succ i => exact .inr (weightsEach_mem (by simpa using hf) (by simpa using hd) n hn)

theorem trod_struct {H : Type} {enc : TypeId × Value → H} {P : Program} {w : World} {base : Nat} {sp : Nat → Bool} {held : Bool} {fuel : Nat} {t : TypeId} {fs : Array Field} (ht : P.underlying t = some (.struct fs)) {cs : List Value} {d : DataW H} {ps : List MemPlace}
    (h : DataW.trod enc P w base sp held (fuel + 1) t cs = some (d, ps)) (hwt : Wt P t d) :
    cs.length = P.cellsOf t ∧ ∀ f ∈ fs.toList, ∃ d' p', DataW.trod enc P w base sp held fuel f.type ((cs.drop f.offset).take (P.cellsOf f.type)) = some (d', p') ∧ Wt P f.type d' := by
  simp only [DataW.trod, ht] at h
  split at h
  · rename_i hl
    refine ⟨hl, fun f hf => ?_⟩
    simp only [Option.map_eq_some_iff, Prod.mk.injEq] at h
    obtain ⟨xs, h1, hd, _⟩ := h
    obtain ⟨_, h2⟩ := mapM_at _ _ h1
    obtain ⟨i, hi⟩ := List.getElem?_of_mem hf
    obtain ⟨y, hy, h3⟩ := h2 i f hi
    refine ⟨y.1, y.2, h3, fun n hn => hwt n ?_⟩
    rw [← hd]
    simp only [DataW.weights, ht]
    exact weightsEach_mem hi (by simp [hy]) n hn
  · cases h

theorem trod_int {H : Type} {enc : TypeId × Value → H} {P : Program} {w : World} {base : Nat} {sp : Nat → Bool} {held : Bool} {fuel : Nat} {t : TypeId} {k : IntKind} (ht : P.underlying t = some (.int k)) {v : Value} {d : DataW H} {ps : List MemPlace}
    (h : DataW.trod enc P w base sp held fuel t [v] = some (d, ps)) : ∃ n, v = .int k n ∧ (Lit.int k n).wf = true := by
  cases fuel with
  | zero => simp [DataW.trod] at h
  | succ fuel =>
    cases v <;> simp only [DataW.trod, ht] at h <;> try (cases h; done)
    split at h
    · rename_i hh; exact ⟨_, by rw [hh.1], hh.2⟩
    · cases h

theorem trod_bool {H : Type} {enc : TypeId × Value → H} {P : Program} {w : World} {base : Nat} {sp : Nat → Bool} {held : Bool} {fuel : Nat} {t : TypeId} (ht : P.underlying t = some .bool) {v : Value} {d : DataW H} {ps : List MemPlace}
    (h : DataW.trod enc P w base sp held fuel t [v] = some (d, ps)) : ∃ b, v = .bool b := by
  cases fuel with
  | zero => simp [DataW.trod] at h
  | succ fuel =>
    cases v <;> simp only [DataW.trod, ht] at h <;> try (cases h; done)
    exact ⟨_, rfl⟩

theorem trod_str {H : Type} {enc : TypeId × Value → H} {P : Program} {w : World} {base : Nat} {sp : Nat → Bool} {held : Bool} {fuel : Nat} {t : TypeId} (ht : P.underlying t = some .string) {v : Value} {d : DataW H} {ps : List MemPlace}
    (h : DataW.trod enc P w base sp held fuel t [v] = some (d, ps)) (hwt : Wt P t d) : ∃ s, v = .string s ∧ s.size ≤ reachBytes := by
  cases fuel with
  | zero => simp [DataW.trod] at h
  | succ fuel =>
    cases v <;> simp only [DataW.trod, ht] at h <;> try (cases h; done)
    split at h
    · rename_i s hh
      simp only [Option.some.injEq, Prod.mk.injEq] at h
      exact ⟨s, rfl, hwt s.size (by rw [← h.1]; simp [DataW.weights])⟩
    · cases h

end Go.Proofs.Ytooaiddfokbffaa.E

/- A term of the input, as a tree, whole. Conditions: none. -/
set_option linter.unusedVariables false
set_option linter.unusedSimpArgs false
namespace Go.Proofs.Ytooaiddfokbffaa.E
open Go Go.Proofs

/-- Rows of elements, each of so many cells. -/
def RL {K : Type} (c : Nat) (R : K → List AV → Prop) : List K → List AV → Prop
  | [], _ => True
  | k :: ks, cs => R k (cs.take c) ∧ RL c R ks (cs.drop c)

theorem rl_of {K : Type} {w : World} {c : Nat} {R : K → List AV → Prop} : ∀ (len : Nat) (us : List Value), us.length = len * c → (∀ i, i < len → ∃ k ys, R k ys ∧ LRel Emb.empty w ys ((us.drop (i * c)).take c)) →
    ∃ (ks : List K) (cs : List AV), ks.length = len ∧ LRel Emb.empty w cs us ∧ RL c R ks cs
  | 0, us, hl, _ => by
    have : us = [] := List.length_eq_zero_iff.1 (by omega)
    subst this
    exact ⟨[], [], rfl, ⟨rfl, fun i x u h => by simp at h⟩, trivial⟩
  | len + 1, us, hl, h => by
    rw [Nat.add_mul, Nat.one_mul] at hl
    obtain ⟨k, ys, h1, h2⟩ := h 0 (Nat.succ_pos _)
    rw [Nat.zero_mul, List.drop_zero] at h2
    obtain ⟨ks, cs, h3, h4, h5⟩ := rl_of (c := c) (R := R) len (us.drop c) (by rw [List.length_drop]; omega) (fun i hi => by
      obtain ⟨k, ys, h6, h7⟩ := h (i + 1) (by omega)
      refine ⟨k, ys, h6, ?_⟩
      rw [List.drop_drop, show c + i * c = (i + 1) * c by rw [Nat.add_mul]; omega]
      exact h7)
    have hys : ys.length = c := by
      have := h2.1
      rw [List.length_take] at this
      omega
    refine ⟨k :: ks, ys ++ cs, by simp [h3], ?_, ?_⟩
    · have := h2.append h4
      rw [List.take_append_drop] at this
      exact this
    · simp only [RL]
      rw [List.take_append_of_le_length (by omega), List.take_of_length_le (by omega), List.drop_append_of_le_length (by omega), List.drop_of_length_le (by omega), List.nil_append]
      exact ⟨h1, h5⟩

theorem slice_rel {w : World} {a : Addr} {len cap : Nat} {us : List Value} (hlc : len ≤ cap) (hcell : ∀ (i : Nat) (u : Value), us[i]? = some u → w.cell? (a.add i) = some u) {cs : List AV} (h : LRel Emb.empty w cs us) :
    VRel Emb.empty w (.ro len cap false cs) (.slice (some a) len cap) :=
  .ro len cap false cs a cap us hlc (Nat.le_refl _) (fun h => by cases h) h.1 (fun i u hu => ⟨hcell i u hu, nohit _⟩) h.2

theorem cells3 : Try.prog.cellsOf 3 = 1 := by kernel_rfl
theorem cells4 : Try.prog.cellsOf 4 = 1 := by kernel_rfl
theorem cells9 : Try.prog.cellsOf 9 = 1 := by kernel_rfl
theorem cells22 : Try.prog.cellsOf 22 = 1 := by kernel_rfl
theorem cells23 : Try.prog.cellsOf 23 = 1 := by kernel_rfl
theorem cells25 : Try.prog.cellsOf 25 = 6 := by kernel_rfl
theorem cells63 : Try.prog.cellsOf 63 = 1 := by kernel_rfl
theorem cells65 : Try.prog.cellsOf 65 = 2 := by kernel_rfl
theorem cells168 : Try.prog.cellsOf 168 = 2 := by kernel_rfl

theorem bytes25 : Try.prog.bytesOf 25 = 88 := by kernel_rfl
theorem bytes65 : Try.prog.bytesOf 65 = 32 := by kernel_rfl
theorem bytes168 : Try.prog.bytesOf 168 = 16 := by kernel_rfl
theorem reach_eq : reachBytes = 140737488351232 := rfl

def Rng (n : Int) : Prop := -9223372036854775808 ≤ n ∧ n ≤ 9223372036854775807
theorem Rng.of {n : Int} (h : (Lit.int .i64 n).wf = true) : Rng n := by
  simp only [Lit.wf, Bool.and_eq_true, decide_eq_true_eq] at h
  exact h

section
variable {H : Type} {enc : TypeId × Value → H} {w : World} {base : Nat} {sp : Nat → Bool} {held : Bool}

theorem two_of {cs : List Value} (h : cs.length = 2) : ∃ a b, cs = [a, b] := by
  match cs, h with
  | [a, b], _ => exact ⟨a, b, rfl⟩

theorem trod_var {fuel : Nat} {cs : List Value} {d : DataW H} {ps : List MemPlace} (h : DataW.trod enc Try.prog w base sp held fuel 168 cs = some (d, ps)) (hwt : Wt Try.prog 168 d) :
    ∃ v : Int × Int, (Rng v.1 ∧ Rng v.2) ∧ LRel Emb.empty w [aint v.1, aint v.2] cs := by
  cases fuel with
  | zero => simp [DataW.trod] at h
  | succ fuel =>
  obtain ⟨h1, h2⟩ := trod_struct Try.underlying168 h hwt
  rw [cells168] at h1
  obtain ⟨a, b, rfl⟩ := two_of h1
  obtain ⟨d1, p1, h3, u3⟩ := h2 _ (List.mem_cons_self ..)
  obtain ⟨d2, p2, h4, u4⟩ := h2 _ (List.mem_cons_of_mem _ (List.mem_cons_self ..))
  simp only [cells3, List.drop_zero, List.take_succ_cons, List.take_zero, List.drop_succ_cons] at h3 h4
  obtain ⟨m, rfl, w1⟩ := trod_int Try.underlying3 h3
  obtain ⟨n, rfl, w2⟩ := trod_int Try.underlying3 h4
  refine ⟨(m, n), ⟨Rng.of w1, Rng.of w2⟩, rfl, fun i x u hx hu => ?_⟩
  match i, hx, hu with
  | 0, hx, hu => simp at hx hu; subst hx hu; exact .v _ rfl
  | 1, hx, hu => simp at hx hu; subst hx hu; exact .v _ rfl

theorem vars_of_rl : ∀ {vars : List (Int × Int)} {vs : List AV}, RL 2 (fun (v : Int × Int) ys => (Rng v.1 ∧ Rng v.2) ∧ ys = [aint v.1, aint v.2]) vars vs → VarsR vars vs ∧ ∀ v ∈ vars, Rng v.1 ∧ Rng v.2
  | [], _, _ => ⟨trivial, fun v hv => by cases hv⟩
  | v :: r, vs, h => by
    simp only [RL] at h
    obtain ⟨⟨h1, h2⟩, h3⟩ := h
    obtain ⟨h4, h5⟩ := vars_of_rl h3
    refine ⟨⟨h2, h4⟩, fun x hx => ?_⟩
    rcases List.mem_cons.1 hx with rfl | hx
    · exact h1
    · exact h5 x hx

/-- A level's own bounds. -/
def LvB (l : Lv) : Prop := Rng l.n ∧ l.vars.length * 16 ≤ 140737488351232 ∧ ∀ v ∈ l.vars, Rng v.1 ∧ Rng v.2

theorem rel_two {x y : AV} {u v : Value} (h : VRel Emb.empty w x u) (k : VRel Emb.empty w y v) : LRel Emb.empty w [x, y] [u, v] :=
  ⟨rfl, fun i a b hx hu => by
    match i, hx, hu with
    | 0, hx, hu => simp at hx hu; subst hx hu; exact h
    | 1, hx, hu => simp at hx hu; subst hx hu; exact k⟩

theorem trod_lv {fuel : Nat} {cs : List Value} {d : DataW H} {ps : List MemPlace} (h : DataW.trod enc Try.prog w base sp held fuel 65 cs = some (d, ps)) (hwt : Wt Try.prog 65 d) :
    ∃ (l : Lv) (vx : AV) (vs : List AV), LvB l ∧ SlR l.vars.length vx vs ∧ VarsR l.vars vs ∧ LRel Emb.empty w [aint l.n, vx] cs := by
  cases fuel with
  | zero => simp [DataW.trod] at h
  | succ fuel =>
  obtain ⟨h1, h2⟩ := trod_struct Try.underlying65 h hwt
  rw [cells65] at h1
  obtain ⟨a, b, rfl⟩ := two_of h1
  obtain ⟨d1, p1, h3, u3⟩ := h2 _ (List.mem_cons_self ..)
  obtain ⟨d2, p2, h4, u4⟩ := h2 _ (List.mem_cons_of_mem _ (List.mem_cons_self ..))
  simp only [cells3, cells63, List.drop_zero, List.take_succ_cons, List.take_zero, List.drop_succ_cons] at h3 h4
  obtain ⟨m, rfl, w1⟩ := trod_int Try.underlying3 h3
  cases fuel with
  | zero => simp [DataW.trod] at h4
  | succ fuel =>
  rcases trod_slice Try.underlying63 h4 u4 with rfl | ⟨ad, len, cap, us, rfl, k1, k2, k3, k4, k5, k6⟩
  · exact ⟨⟨m, []⟩, nils, [], ⟨Rng.of w1, by simp, fun v hv => by cases hv⟩, .inl ⟨rfl, rfl⟩, trivial, rel_two (.v _ rfl) (.v _ rfl)⟩
  · rw [cells168] at k3 k5
    rw [bytes168, reach_eq] at k6
    obtain ⟨vars, vs, q1, q2, q3⟩ := rl_of (c := 2) (R := fun (v : Int × Int) ys => (Rng v.1 ∧ Rng v.2) ∧ ys = [aint v.1, aint v.2]) len us k3 (fun i hi => by
      obtain ⟨d', p', k6, k9⟩ := k5 i hi
      obtain ⟨v, k7, k8⟩ := trod_var k6 k9
      exact ⟨v, _, ⟨k7, rfl⟩, k8⟩)
    obtain ⟨q4, q5⟩ := vars_of_rl q3
    exact ⟨⟨m, vars⟩, .ro len cap false vs, vs, ⟨Rng.of w1, by simp only [q1]; omega, q5⟩, .inr ⟨cap, false, by simp only [q1], by simp only [q1]; omega⟩, q4, rel_two (.v _ rfl) (slice_rel k1 k4 q2)⟩

end

end Go.Proofs.Ytooaiddfokbffaa.E

/- A term of the input, as a tree, whole. Conditions: none. -/
set_option linter.unusedVariables false
set_option linter.unusedSimpArgs false
namespace Go.Proofs.Ytooaiddfokbffaa.E
open Go Go.Proofs

theorem lvs_of_rl : ∀ {ls : List Lv} {cs : List AV}, RL 2 (fun (l : Lv) ys => LvB l ∧ ∃ vx vs, SlR l.vars.length vx vs ∧ VarsR l.vars vs ∧ ys = [aint l.n, vx]) ls cs → LvsR ls cs ∧ ∀ l ∈ ls, LvB l
  | [], _, _ => ⟨trivial, fun v hv => by cases hv⟩
  | l :: r, cs, h => by
    simp only [RL] at h
    obtain ⟨⟨h1, vx, vs, h2, h3, h4⟩, h5⟩ := h
    obtain ⟨h6, h7⟩ := lvs_of_rl h5
    refine ⟨⟨⟨vx, vs, h4, h2, h3⟩, h6⟩, fun x hx => ?_⟩
    rcases List.mem_cons.1 hx with rfl | hx
    · exact h1
    · exact h7 x hx

/-- A part's own bounds. -/
def TmB (t : Tm) : Prop := Rng t.form ∧ Rng t.n ∧ t.name.size ≤ 140737488351232 ∧ t.lv.length * 32 ≤ 140737488351232 ∧ t.kids.length * 88 ≤ 140737488351232 ∧ ∀ l ∈ t.lv, LvB l

theorem ks_of_rl : ∀ {ks : List Tm} {cs : List AV}, RL 6 (fun (t : Tm) ys => Tm.All TmB t ∧ TmR t ys) ks cs → KsR ks cs ∧ Tm.AllL TmB ks
  | [], _, _ => ⟨trivial, trivial⟩
  | k :: r, cs, h => by
    simp only [RL] at h
    obtain ⟨⟨h1, h2⟩, h3⟩ := h
    obtain ⟨h4, h5⟩ := ks_of_rl h3
    exact ⟨⟨h2, h4⟩, h1, h5⟩

section
variable {H : Type} {enc : TypeId × Value → H} {w : World} {base : Nat} {sp : Nat → Bool} {held : Bool}

theorem six_of {cs : List Value} (h : cs.length = 6) : ∃ a b c d e f, cs = [a, b, c, d, e, f] := by
  match cs, h with
  | [a, b, c, d, e, f], _ => exact ⟨a, b, c, d, e, f, rfl⟩

theorem trod_tm : ∀ (fuel : Nat) (cs : List Value) (d : DataW H) (ps : List MemPlace), DataW.trod enc Try.prog w base sp held fuel 25 cs = some (d, ps) → Wt Try.prog 25 d →
    ∃ (t : Tm) (ys : List AV), Tm.All TmB t ∧ TmR t ys ∧ LRel Emb.empty w ys cs := by
  intro fuel
  induction fuel using Nat.strongRecOn with
  | _ fuel ih =>
  intro cs d ps h hwt
  cases fuel with
  | zero => simp [DataW.trod] at h
  | succ fuel =>
  obtain ⟨h1, h2⟩ := trod_struct Try.underlying25 h hwt
  rw [cells25] at h1
  obtain ⟨v1, v2, v3, v4, v5, v6, rfl⟩ := six_of h1
  simp only [Array.toList, List.mem_cons, List.not_mem_nil, or_false, forall_eq_or_imp, forall_eq] at h2
  obtain ⟨⟨_, _, g1, _⟩, ⟨_, _, g2, _⟩, ⟨_, _, g3, _⟩, ⟨_, _, g4, f4⟩, ⟨_, _, g5, f5⟩, ⟨_, _, g6, f6⟩⟩ := h2
  simp only [cells3, cells4, cells9, cells22, cells23, List.drop_zero, List.take_succ_cons, List.take_zero, List.drop_succ_cons] at g1 g2 g3 g4 g5 g6
  obtain ⟨f, rfl, w1⟩ := trod_int Try.underlying3 g1
  obtain ⟨n, rfl, w2⟩ := trod_int Try.underlying3 g2
  obtain ⟨hid, rfl⟩ := trod_bool Try.underlying4 g3
  obtain ⟨s, rfl, w4⟩ := trod_str Try.underlying9 g4 f4
  cases fuel with
  | zero => simp [DataW.trod] at g5
  | succ fuel =>
  have hlv : ∃ (lv : List Lv) (lx : AV) (ls : List AV), lv.length * 32 ≤ 140737488351232 ∧ (∀ l ∈ lv, LvB l) ∧ SlR lv.length lx ls ∧ LvsR lv ls ∧ VRel Emb.empty w lx v5 := by
    rcases trod_slice Try.underlying22 g5 f5 with rfl | ⟨ad, len, cap, us, rfl, k1, k2, k3, k4, k5, kb⟩
    · exact ⟨[], nils, [], by simp, (fun v hv => by cases hv), .inl ⟨rfl, rfl⟩, trivial, .v _ rfl⟩
    · rw [cells65] at k3 k5
      rw [bytes65, reach_eq] at kb
      obtain ⟨lv, ls, q1, q2, q3⟩ := rl_of (c := 2) (R := fun (l : Lv) ys => LvB l ∧ ∃ vx vs, SlR l.vars.length vx vs ∧ VarsR l.vars vs ∧ ys = [aint l.n, vx]) len us k3 (fun i hi => by
        obtain ⟨d', p', k6, kw⟩ := k5 i hi
        obtain ⟨l, vx, vs, k7, k8, k9, k10⟩ := trod_lv k6 kw
        exact ⟨l, _, ⟨k7, vx, vs, k8, k9, rfl⟩, k10⟩)
      obtain ⟨q4, q5⟩ := lvs_of_rl q3
      exact ⟨lv, .ro len cap false ls, ls, by omega, q5, .inr ⟨cap, false, by rw [q1], by omega⟩, q4, slice_rel k1 k4 q2⟩
  have hks : ∃ (ks : List Tm) (kx : AV) (cs : List AV), ks.length * 88 ≤ 140737488351232 ∧ Tm.AllL TmB ks ∧ SlR ks.length kx cs ∧ KsR ks cs ∧ VRel Emb.empty w kx v6 := by
    rcases trod_slice Try.underlying23 g6 f6 with rfl | ⟨ad, len, cap, us, rfl, k1, k2, k3, k4, k5, kb⟩
    · exact ⟨[], nils, [], by simp, trivial, .inl ⟨rfl, rfl⟩, trivial, .v _ rfl⟩
    · rw [cells25] at k3 k5
      rw [bytes25, reach_eq] at kb
      obtain ⟨ks, cs', q1, q2, q3⟩ := rl_of (c := 6) (R := fun (t : Tm) ys => Tm.All TmB t ∧ TmR t ys) len us k3 (fun i hi => by
        obtain ⟨d', p', k6, kw⟩ := k5 i hi
        obtain ⟨t, ys, k7, k8, k9⟩ := ih fuel (by omega) _ _ _ k6 kw
        exact ⟨t, ys, ⟨k7, k8⟩, k9⟩)
      obtain ⟨q4, q5⟩ := ks_of_rl q3
      exact ⟨ks, .ro len cap false cs', cs', by omega, q5, .inr ⟨cap, false, by rw [q1], by omega⟩, q4, slice_rel k1 k4 q2⟩
  obtain ⟨lv, lx, ls, r1, r2, r3, r4, r5⟩ := hlv
  obtain ⟨ks, kx, cs', m1, m2, m3, m4, m5⟩ := hks
  refine ⟨.mk f n hid s lv ks, [aint f, aint n, abl hid, .v (.string s), lx, kx], ?_, ?_, rfl, fun i x u hx hu => ?_⟩
  · simp only [Tm.All]
    exact ⟨⟨Rng.of w1, Rng.of w2, w4, r1, m1, r2⟩, m2⟩
  · simp only [TmR]
    exact ⟨lx, kx, ls, cs', rfl, r3, r4, m3, m4⟩
  · match i, hx, hu with
    | 0, hx, hu => simp at hx hu; subst hx hu; exact .v _ rfl
    | 1, hx, hu => simp at hx hu; subst hx hu; exact .v _ rfl
    | 2, hx, hu => simp at hx hu; subst hx hu; exact .v _ rfl
    | 3, hx, hu => simp at hx hu; subst hx hu; exact .v _ rfl
    | 4, hx, hu => simp at hx hu; subst hx hu; exact r5
    | 5, hx, hu => simp at hx hu; subst hx hu; exact m5

end
end Go.Proofs.Ytooaiddfokbffaa.E
