/- Texts of the proof, one behind the other. Conditions: none. -/
import Derived.Test.YtooaiddfokbffaaA4
import Derived.SizedLaws
import Derived.Carry
import Derived.WalkKit
import Derived.ProofKit
import Derived.OpenShut
import Derived.ShutString
import Derived.ChangeOld
import Derived.Below
/- Rows of variables that rise, joined: as the code does it. Conditions: none. -/
set_option linter.unusedVariables false
set_option linter.unusedSimpArgs false
namespace Go.Proofs.Ytooaiddfokbffaa.E
open Go Go.Proofs
attribute [local go_sem] s_seq s_ops s_draw s_block s_skip s_ret s_exit i_nil i_cons i_run i_runG s_condQ c_true c_false aop ev_t ev_c updO_at updO_no upd_at t_normal t_ret t_exit b_normal b_ret b_exit a_some ac_v ac_agg ac_ptr ac_slc ac_ro ac_rop ac_fn new_next set_next argTm_zero argTm_succ argTm_nil ab_bool ab_uv beq_self_eq_true Option.some_beq_some Bool.not_not beq_iff_eq decide_true decide_false Bool.not_true Bool.not_false afld aload astore apack alen_str alen_ro alen_slc alen_nil new_get set_get ite_true ite_false Option.map_some Option.bind_some ibin isShift Nat.add_zero Nat.zero_add List.length_cons List.length_nil List.drop_zero List.drop_succ_cons List.take_succ_cons List.take_zero if_true if_false setL List.set_cons_zero List.set_cons_succ List.all_cons List.all_nil one_int one_bool one_str one_nil one_ptr one_slc one_ro one_rop one_fn Bool.and_self Bool.and_true true_and and_true and_self Bool.false_eq_true post_ret post_normal resAll resOne packR Option.some.injEq exists_eq_left' List.map_cons List.map_nil List.nil_append List.append_nil List.cons_append d_nil d_cons k_nil k_cons g_op g_same g_new avBlock forall_eq' List.getElem?_cons_succ List.getElem?_cons_zero List.getElem?_nil okind gOk bne false_imp_iff forall_const imp_self implies_true true_imp_iff i_callG

theorem SlR.tail {n : Nat} {x : AV} {cs : List AV} (h : SlR (n + 1) x cs) (es : Nat) : ∃ y cs', aslice es x (some 1) none none = some y ∧ SlR n y cs' ∧ (n = 0 ∨ cs' = cs.drop es) := by
  rcases h with ⟨h, _⟩ | ⟨lo, ex, rfl, hlo⟩
  · omega
  · have hc : acut (max (n + 1) lo) ex (n + 1) (some 1) none none = some (1, n + 1, max (n + 1) lo - 1, ex) := by
      simp only [acut, Option.getD_some, Option.getD_none]
      rw [if_pos (by omega)]
    simp only [aslice, hc]
    by_cases h0 : 0 < max (n + 1) lo - 1
    · rw [if_pos h0]
      exact ⟨_, _, rfl, .inr ⟨_, _, rfl, by omega⟩, .inr (by rw [Nat.one_mul])⟩
    · rw [if_neg h0]
      exact ⟨_, _, rfl, .inr ⟨0, ex, by rw [show n = 0 by omega], by omega⟩, .inl (by omega)⟩

theorem VarsR.tail {v : Int × Int} {r : List (Int × Int)} {cs cs' : List AV} (h : VarsR (v :: r) cs) (hc : r.length = 0 ∨ cs' = cs.drop 2) : VarsR r cs' := by
  obtain ⟨a, b⟩ := v
  simp only [VarsR] at h
  rcases hc with hc | rfl
  · rw [List.length_eq_zero_iff.1 hc]; trivial
  · exact h.2

theorem varsC_old (n : Nat) (vars : List (Int × Int)) : ∀ y ∈ varsC vars, Old n y := by
  intro y hy
  simp only [varsC, List.mem_flatMap] at hy
  obtain ⟨v, _, hv⟩ := hy
  simp at hv
  rcases hv with rfl | rfl <;> exact .v _
theorem varsC_one (vars : List (Int × Int)) : (varsC vars).all AV.one = true := by
  rw [List.all_eq_true]
  intro y hy
  simp only [varsC, List.mem_flatMap] at hy
  obtain ⟨v, _, hv⟩ := hy
  simp at hv
  rcases hv with rfl | rfl <;> rfl

/-- A row of variables that leads to no block. -/
def SlV (vars : List (Int × Int)) (x : AV) : Prop := (∃ cs, SlR vars.length x cs ∧ VarsR vars cs) ∧ Old 0 x
theorem SlV.of {vars : List (Int × Int)} {y : AV} (h : (vars.length = 0 ∧ y = .v (.slice none 0 0)) ∨ ∃ lo ex, y = .ro vars.length lo ex (varsC vars) ∧ vars.length ≤ lo) : SlV vars y := by
  refine ⟨⟨_, h, varsR_self _⟩, ?_⟩
  rcases h with ⟨_, rfl⟩ | ⟨lo, ex, rfl, _⟩
  · exact .v _
  · exact .ro _ _ _ _ (varsC_old 0 _)

def joinF : List (Int × Int) → List (Int × Int) → List (Int × Int)
  | [], b => b
  | x :: a, [] => x :: a
  | x :: a, y :: b => if x.1 < y.1 then x :: joinF a (y :: b) else if y.1 < x.1 then y :: joinF (x :: a) b else greaterF x y :: joinF a b
termination_by a b => a.length + b.length

theorem joinF_len (a b : List (Int × Int)) : (joinF a b).length ≤ a.length + b.length := by
  induction a, b using joinF.induct with
  | case1 b => simp [joinF]
  | case2 x a => simp [joinF]
  | case3 x a y b h ih => rw [joinF, if_pos h]; simp at ih ⊢; omega
  | case4 x a y b h1 h2 ih => rw [joinF, if_neg h1, if_pos h2]; simp at ih ⊢; omega
  | case5 x a y b h1 h2 ih => rw [joinF, if_neg h1, if_neg h2]; simp at ih ⊢; omega

set_option maxRecDepth 100000 in
theorem joined_ok (a b : List (Int × Int)) (ax bx : AV) (ca cb : List AV) (ha : SlR a.length ax ca) (ha' : VarsR a ca) (hb : SlR b.length bx cb) (hb' : VarsR b cb) (hn : a.length + b.length ≤ 1000000) (H : AHeap) :
    SCall Try.prog 202 [ax, bx, .fn (.func 203) [] [], .fn (.func 204) [] []] H fun x H' => SlV (joinF a b) x ∧ H' = H := by
  have main : SCall Try.prog 202 [ax, bx, .fn (.func 203) [] [], .fn (.func 204) [] []] H fun x H' => Ext H H' ∧ OutS H' H.next 2 (joinF a b).length (varsC (joinF a b)) x := by
    refine SCall.intro mixed cf202 ?_
    simp -implicitDefEqProofs only [c202, go_sem, Nat.reduceEqDiff, Nat.reduceAdd, Nat.reduceLeDiff, ↓reduceIte, reduceCtorEq, Int.reduceBEq, Int.reduceBNe, Int.reduceLT, Int.reduceLE, Int.reduceGT, Int.reduceGE, Int.reduceNeg, Int.reduceAdd, Int.reduceSub, Nat.reduceMul, Nat.reduceLT, Int.reduceToNat]
    refine swp_loop (fun k st => ∃ (o a' b' : List (Int × Int)) (x0 x1 x9 : AV) (c0 c1 : List AV), k = a'.length + b'.length ∧ joinF a b = o ++ joinF a' b' ∧ o.length + a'.length + b'.length ≤ 1000000 ∧
      SlR a'.length x0 c0 ∧ VarsR a' c0 ∧ SlR b'.length x1 c1 ∧ VarsR b' c1 ∧ OutS st.heap H.next 2 o.length (varsC o) x9 ∧ Ext H st.heap ∧
      st.tm 0 = x0 ∧ st.tm 1 = x1 ∧ st.tm 2 = .fn (.func 203) [] [] ∧ st.tm 3 = .fn (.func 204) [] [] ∧ st.tm 9 = x9) (k := a.length + b.length) ?_ ?_
    · exact ⟨[], a, b, ax, bx, _, ca, cb, rfl, rfl, by simpa using hn, ha, ha', hb, hb', OutS.nil, Ext.refl H, rfl, rfl, rfl, rfl, rfl⟩
    rintro k ⟨tm, H2⟩ ⟨o, a', b', x0, x1, x9, c0, c1, rfl, hj, hlen, h0, h0', h1, h1', hO, hE, t0, t1, t2, t3, t9⟩
    simp only at hO hE t0 t1 t2 t3 t9
    have fin : ∀ tm : Nat → AV, tm 1 = x1 → (a' = [] ∨ b' = []) → after (swpI Try.prog [(.op (some 72) none (.move (.t 1))), (.op (some 73) none (.append 2 16 (.t 71) (.t 72))), (.op (some 8) none (.move (.t 73)))]
        (thenQ (swp Try.prog .ret (postF [(.t 8)] fun x H' => Ext H H' ∧ OutS H' H.next 2 (joinF a b).length (varsC (joinF a b)) x)) (postF [(.t 8)] fun x H' => Ext H H' ∧ OutS H' H.next 2 (joinF a b).length (varsC (joinF a b)) x) .normal)) tm (some 71) (aappend H2 2 16 x9 x0) := by
      intro tm e1 hem
      have src : ∀ (G : AHeap) (r : List (Int × Int)) (x : AV) (c : List AV), SlR r.length x c → VarsR r c → asrc G 2 x = some (r.length, varsC r) := by
        intro G r x c q1 q2
        rcases q1 with ⟨q, rfl⟩ | ⟨lo, ex, rfl, q⟩
        · rw [List.length_eq_zero_iff.1 q]; rfl
        · simp only [asrc]
          rw [if_pos q2.len, q2.pre]
      have app : ∀ (G : AHeap) (o r : List (Int × Int)) (x y : AV) (c : List AV) (K : ASt → Prop) (tm : Nat → AV) (d : Option Nat), OutS G H.next 2 o.length (varsC o) x → Ext H G → SlR r.length y c → VarsR r c → o.length + r.length ≤ 1000000 →
          (∀ x' G', OutS G' H.next 2 (o ++ r).length (varsC (o ++ r)) x' → Ext H G' → K ⟨updO tm d x', G'⟩) → after K tm d (aappend G 2 16 x y) := by
        intro G o r x y c K tm d q1 qE q2 q3 q4 q5
        cases r with
        | nil =>
          refine q1.step0 (src G [] y c q2 q3) (by omega) (q5 _ _ ?_ qE)
          rw [List.append_nil]; exact q1
        | cons v r =>
          refine q1.step (src G _ y c q2 q3) (varsC_one _) (by simp) (by omega) ⟨by omega, by omega⟩ (varsC_length _) qE.1 fun x' G' q6 q7 q8 => q5 _ _ ?_ ⟨Nat.le_trans qE.1 q7, fun b hb => ?_⟩
          · rw [List.length_append, varsC_append]; exact q6
          · rw [q8 b (Nat.lt_of_lt_of_le hb qE.1) (fun off es' n' lo ex hx => ?_), qE.2 b hb]
            rcases q1 with ⟨_, _, rfl⟩ | ⟨b0, g1, g2, rfl, g3⟩
            · cases hx
            · injection hx with hx; omega
      have hj2 : joinF a b = o ++ (a' ++ b') := by
        rw [hj]
        rcases hem with rfl | rfl
        · simp [joinF]
        · cases a' <;> simp [joinF]
      refine app _ o a' _ _ c0 _ _ _ hO hE h0 h0' (by omega) ?_
      intro x' G' hO' hE'
      simp -implicitDefEqProofs only [go_sem, Nat.reduceEqDiff, Nat.reduceAdd, Nat.reduceLeDiff, ↓reduceIte, reduceCtorEq, Int.reduceBEq, Int.reduceBNe, Int.reduceLT, Int.reduceLE, Int.reduceGT, Int.reduceGE, Int.reduceNeg, Int.reduceAdd, Int.reduceSub, Nat.reduceMul, Nat.reduceLT, Int.reduceToNat, e1]
      refine app _ (o ++ a') b' _ _ c1 _ _ _ hO' hE' h1 h1' (by simp; omega) ?_
      intro x2 G2 hO2 hE2
      simp -implicitDefEqProofs only [go_sem, Nat.reduceEqDiff, Nat.reduceAdd, Nat.reduceLeDiff, ↓reduceIte, reduceCtorEq, Int.reduceBEq, Int.reduceBNe, Int.reduceLT, Int.reduceLE, Int.reduceGT, Int.reduceGE, Int.reduceNeg, Int.reduceAdd, Int.reduceSub, Nat.reduceMul, Nat.reduceLT, Int.reduceToNat]
      exact ⟨hE2, by rw [hj2, ← List.append_assoc]; exact hO2⟩
    cases a' with
    | nil =>
      have q0 : ¬ ((0 : Nat) : Int) > 0 := by omega
      simp only [List.length_nil] at h0
      simp -implicitDefEqProofs only [go_sem, Nat.reduceEqDiff, Nat.reduceAdd, Nat.reduceLeDiff, ↓reduceIte, reduceCtorEq, Int.reduceBEq, Int.reduceBNe, Int.reduceLT, Int.reduceLE, Int.reduceGT, Int.reduceGE, Int.reduceNeg, Int.reduceAdd, Int.reduceSub, Nat.reduceMul, Nat.reduceLT, Int.reduceToNat, t0, t1, t2, t3, t9, fun H => h0.alen H, fun H => h1.alen H, q0]
      exact fin _ (by simp -implicitDefEqProofs only [go_sem, Nat.reduceEqDiff, Nat.reduceAdd, Nat.reduceLeDiff, ↓reduceIte, reduceCtorEq, Int.reduceBEq, Int.reduceBNe, Int.reduceLT, Int.reduceLE, Int.reduceGT, Int.reduceGE, Int.reduceNeg, Int.reduceAdd, Int.reduceSub, Nat.reduceMul, Nat.reduceLT, Int.reduceToNat, t1]) (.inl rfl)
    | cons u a2 =>
    have q0 : ((a2.length + 1 : Nat) : Int) > 0 := by omega
    simp only [List.length_cons] at h0
    cases b' with
    | nil =>
      have q1 : ¬ ((0 : Nat) : Int) > 0 := by omega
      simp only [List.length_nil] at h1
      simp -implicitDefEqProofs only [go_sem, Nat.reduceEqDiff, Nat.reduceAdd, Nat.reduceLeDiff, ↓reduceIte, reduceCtorEq, Int.reduceBEq, Int.reduceBNe, Int.reduceLT, Int.reduceLE, Int.reduceGT, Int.reduceGE, Int.reduceNeg, Int.reduceAdd, Int.reduceSub, Nat.reduceMul, Nat.reduceLT, Int.reduceToNat, t0, t1, t2, t3, t9, fun H => h0.alen H, fun H => h1.alen H, q0, q1]
      exact fin _ (by simp -implicitDefEqProofs only [go_sem, Nat.reduceEqDiff, Nat.reduceAdd, Nat.reduceLeDiff, ↓reduceIte, reduceCtorEq, Int.reduceBEq, Int.reduceBNe, Int.reduceLT, Int.reduceLE, Int.reduceGT, Int.reduceGE, Int.reduceNeg, Int.reduceAdd, Int.reduceSub, Nat.reduceMul, Nat.reduceLT, Int.reduceToNat, t1]) (.inr rfl)
    | cons v b2 =>
    have q1 : ((b2.length + 1 : Nat) : Int) > 0 := by omega
    simp only [List.length_cons] at h1 hlen
    have hix0 := h0.aix 2 (i := 0) (by omega)
    have hix1 := h1.aix 2 (i := 0) (by omega)
    obtain ⟨hle0, hld0⟩ := h0'.at (i := 0) (by simp)
    obtain ⟨hle1, hld1⟩ := h1'.at (i := 0) (by simp)
    obtain ⟨y0, d0, hs0, hy0, hd0⟩ := h0.tail 2
    obtain ⟨y1, d1, hs1, hy1, hd1⟩ := h1.tail 2
    have hv0 := h0'.tail hd0
    have hv1 := h1'.tail hd1
    simp only [Nat.zero_mul, Nat.zero_add, List.drop_zero, Int.natCast_zero, Int.ofNat_zero, Int.ofNat_eq_natCast, Int.cast_ofNat_Int, List.getElem_cons_zero] at hix0 hix1 hle0 hld0 hle1 hld1
    have p0 : 2 ≤ c0.length := by omega
    have p1 : 2 ≤ c1.length := by omega
    have i1 : (0 : Int) ≤ 1 := by omega
    have i2 : (1 : Int).toNat = 1 := rfl
    have hHb : H.next ≤ H2.next := hE.1
    -- one more
    have more : ∀ (z : Int × Int) (K : ASt → Prop) (tm : Nat → AV) (d : Option Nat), (∀ x' G', OutS G' H.next 2 (o ++ [z]).length (varsC (o ++ [z])) x' → Ext H G' → K ⟨updO tm d x', G'⟩) →
        after K tm d (aappend (H2.new (.cells [aint z.1, aint z.2])) 2 16 x9 (.slc H2.next 0 2 1 1 true)) := by
      intro z K tm d hk
      refine (hO.new _).step (m := 1) (new := [aint z.1, aint z.2]) (asrc_slc (c := [aint z.1, aint z.2]) (by rw [new_get, if_pos rfl]) (by simp)) rfl (by omega) (by omega) ⟨by omega, by omega⟩ rfl (by rw [new_next]; omega) fun x' G' q6 q7 q8 => hk _ _ ?_ ⟨Nat.le_trans (Nat.le_trans hHb (Nat.le_succ _)) q7, fun b hb => ?_⟩
      · rw [List.length_append, varsC_append]; exact q6
      · rw [q8 b (by rw [new_next]; omega) (fun off es' n' lo ex hx => ?_), new_get, if_neg (by omega), hE.2 b hb]
        rcases hO with ⟨_, _, rfl⟩ | ⟨b0, g1, g2, rfl, g3⟩
        · cases hx
        · injection hx with hx; omega
    simp -implicitDefEqProofs only [go_sem, Nat.reduceEqDiff, Nat.reduceAdd, Nat.reduceLeDiff, ↓reduceIte, reduceCtorEq, Int.reduceBEq, Int.reduceBNe, Int.reduceLT, Int.reduceLE, Int.reduceGT, Int.reduceGE, Int.reduceNeg, Int.reduceAdd, Int.reduceSub, Nat.reduceMul, Nat.reduceLT, Int.reduceToNat, t0, t1, t2, t3, t9, fun H => h0.alen H, fun H => h1.alen H, q0, q1, hix0, hix1, p0, p1, hld0, hld1]
    refine i_callA (fs := []) (cs := []) (fid := 203) ?_ ?_ (number_ok u.1 u.2 _) ?_
    · rfl
    · simp -implicitDefEqProofs only [go_sem, Nat.reduceEqDiff, Nat.reduceAdd, Nat.reduceLeDiff, ↓reduceIte, reduceCtorEq, Int.reduceBEq, Int.reduceBNe, Int.reduceLT, Int.reduceLE, Int.reduceGT, Int.reduceGE, Int.reduceNeg, Int.reduceAdd, Int.reduceSub, Nat.reduceMul, Nat.reduceLT, Int.reduceToNat]
    rintro x H3 ⟨rfl, rfl⟩
    simp -implicitDefEqProofs only [go_sem, Nat.reduceEqDiff, Nat.reduceAdd, Nat.reduceLeDiff, ↓reduceIte, reduceCtorEq, Int.reduceBEq, Int.reduceBNe, Int.reduceLT, Int.reduceLE, Int.reduceGT, Int.reduceGE, Int.reduceNeg, Int.reduceAdd, Int.reduceSub, Nat.reduceMul, Nat.reduceLT, Int.reduceToNat, t0, t1, t2, t3, t9, hix0, hix1, p0, p1, hld0, hld1]
    refine i_callA (fs := []) (cs := []) (fid := 203) ?_ ?_ (number_ok v.1 v.2 _) ?_
    · rfl
    · simp -implicitDefEqProofs only [go_sem, Nat.reduceEqDiff, Nat.reduceAdd, Nat.reduceLeDiff, ↓reduceIte, reduceCtorEq, Int.reduceBEq, Int.reduceBNe, Int.reduceLT, Int.reduceLE, Int.reduceGT, Int.reduceGE, Int.reduceNeg, Int.reduceAdd, Int.reduceSub, Nat.reduceMul, Nat.reduceLT, Int.reduceToNat]
    rintro x H3 ⟨rfl, rfl⟩
    by_cases c1' : u.1 < v.1
    · simp -implicitDefEqProofs only [go_sem, Nat.reduceEqDiff, Nat.reduceAdd, Nat.reduceLeDiff, ↓reduceIte, reduceCtorEq, Int.reduceBEq, Int.reduceBNe, Int.reduceLT, Int.reduceLE, Int.reduceGT, Int.reduceGE, Int.reduceNeg, Int.reduceAdd, Int.reduceSub, Nat.reduceMul, Nat.reduceLT, Int.reduceToNat, t0, t1, t2, t3, t9, c1', hix0, p0, hld0, afill, anat, i1, hs0, hs1, Option.map_none]
      refine more u _ _ _ fun x' G' hO' hE' => ?_
      simp -implicitDefEqProofs only [go_sem, Nat.reduceEqDiff, Nat.reduceAdd, Nat.reduceLeDiff, ↓reduceIte, reduceCtorEq, Int.reduceBEq, Int.reduceBNe, Int.reduceLT, Int.reduceLE, Int.reduceGT, Int.reduceGE, Int.reduceNeg, Int.reduceAdd, Int.reduceSub, Nat.reduceMul, Nat.reduceLT, Int.reduceToNat, t0, t1, t2, t3, t9, anat, i1, hs0, Option.map_none]
      refine ⟨a2.length + (b2.length + 1), by omega, o ++ [u], a2, v :: b2, y0, x1, x', d0, _, rfl, ?_, by simp; omega, hy0, hv0, h1, h1', hO', hE', rfl, rfl, rfl⟩
      rw [hj, joinF, if_pos c1']; simp
    by_cases c2' : v.1 < u.1
    · simp -implicitDefEqProofs only [go_sem, Nat.reduceEqDiff, Nat.reduceAdd, Nat.reduceLeDiff, ↓reduceIte, reduceCtorEq, Int.reduceBEq, Int.reduceBNe, Int.reduceLT, Int.reduceLE, Int.reduceGT, Int.reduceGE, Int.reduceNeg, Int.reduceAdd, Int.reduceSub, Nat.reduceMul, Nat.reduceLT, Int.reduceToNat, t0, t1, t2, t3, t9, c1', c2', hix1, p1, hld1, afill, anat, i1, hs0, hs1, Option.map_none]
      refine more v _ _ _ fun x' G' hO' hE' => ?_
      simp -implicitDefEqProofs only [go_sem, Nat.reduceEqDiff, Nat.reduceAdd, Nat.reduceLeDiff, ↓reduceIte, reduceCtorEq, Int.reduceBEq, Int.reduceBNe, Int.reduceLT, Int.reduceLE, Int.reduceGT, Int.reduceGE, Int.reduceNeg, Int.reduceAdd, Int.reduceSub, Nat.reduceMul, Nat.reduceLT, Int.reduceToNat, t0, t1, t2, t3, t9, anat, i1, hs1, Option.map_none]
      refine ⟨(a2.length + 1) + b2.length, by omega, o ++ [v], u :: a2, b2, x0, y1, x', c0, d1, rfl, ?_, by simp; omega, h0, h0', hy1, hv1, hO', hE', rfl, rfl, rfl⟩
      rw [hj, joinF, if_neg c1', if_pos c2']; simp
    · simp -implicitDefEqProofs only [go_sem, Nat.reduceEqDiff, Nat.reduceAdd, Nat.reduceLeDiff, ↓reduceIte, reduceCtorEq, Int.reduceBEq, Int.reduceBNe, Int.reduceLT, Int.reduceLE, Int.reduceGT, Int.reduceGE, Int.reduceNeg, Int.reduceAdd, Int.reduceSub, Nat.reduceMul, Nat.reduceLT, Int.reduceToNat, t0, t1, t2, t3, t9, c1', c2', hix0, p0, hld0, hix1, p1, hld1, anat, i1, hs0, hs1, Option.map_none]
      refine i_callA (fs := []) (cs := []) (fid := 204) ?_ ?_ (greater_ok u v _) ?_
      · rfl
      · simp -implicitDefEqProofs only [go_sem, Nat.reduceEqDiff, Nat.reduceAdd, Nat.reduceLeDiff, ↓reduceIte, reduceCtorEq, Int.reduceBEq, Int.reduceBNe, Int.reduceLT, Int.reduceLE, Int.reduceGT, Int.reduceGE, Int.reduceNeg, Int.reduceAdd, Int.reduceSub, Nat.reduceMul, Nat.reduceLT, Int.reduceToNat]
      rintro x H3 ⟨rfl, rfl⟩
      simp -implicitDefEqProofs only [go_sem, Nat.reduceEqDiff, Nat.reduceAdd, Nat.reduceLeDiff, ↓reduceIte, reduceCtorEq, Int.reduceBEq, Int.reduceBNe, Int.reduceLT, Int.reduceLE, Int.reduceGT, Int.reduceGE, Int.reduceNeg, Int.reduceAdd, Int.reduceSub, Nat.reduceMul, Nat.reduceLT, Int.reduceToNat, t0, t1, t2, t3, t9, afill, anat, i1, hs0, hs1, Option.map_none]
      refine more (greaterF u v) _ _ _ fun x' G' hO' hE' => ?_
      simp -implicitDefEqProofs only [go_sem, Nat.reduceEqDiff, Nat.reduceAdd, Nat.reduceLeDiff, ↓reduceIte, reduceCtorEq, Int.reduceBEq, Int.reduceBNe, Int.reduceLT, Int.reduceLE, Int.reduceGT, Int.reduceGE, Int.reduceNeg, Int.reduceAdd, Int.reduceSub, Nat.reduceMul, Nat.reduceLT, Int.reduceToNat, t0, t1, t2, t3, t9, anat, i1, hs0, hs1, Option.map_none]
      refine ⟨a2.length + b2.length, by omega, o ++ [greaterF u v], a2, b2, y0, y1, x', d0, d1, rfl, ?_, by simp; omega, hy0, hv0, hy1, hv1, hO', hE', rfl, rfl, rfl⟩
      rw [hj, joinF, if_neg c1', if_neg c2']; simp
  refine main.frz fun _ _ x H' ⟨h1, h2⟩ _ => ⟨h1, ?_⟩
  obtain ⟨y, h3, h4⟩ := h2.frzOld (Nat.le_refl _) (varsC_old _ _)
  exact ⟨y, h3, SlV.of h4⟩
end Go.Proofs.Ytooaiddfokbffaa.E

/- The canonical level, as the code makes it. Conditions: none. -/
set_option linter.unusedVariables false
set_option linter.unusedSimpArgs false
namespace Go.Proofs.Ytooaiddfokbffaa.E
open Go Go.Proofs
attribute [local go_sem] s_seq s_ops s_draw s_block s_skip s_ret s_exit i_nil i_cons i_run i_runG s_condQ c_true c_false aop ev_t ev_c updO_at updO_no upd_at t_normal t_ret t_exit b_normal b_ret b_exit a_some ac_v ac_agg ac_ptr ac_slc ac_ro ac_rop ac_fn new_next set_next argTm_zero argTm_succ argTm_nil ab_bool ab_uv beq_self_eq_true Option.some_beq_some Bool.not_not beq_iff_eq decide_true decide_false Bool.not_true Bool.not_false afld aload astore apack alen_str alen_ro alen_slc alen_nil new_get set_get ite_true ite_false Option.map_some Option.bind_some ibin isShift Nat.add_zero Nat.zero_add List.length_cons List.length_nil List.drop_zero List.drop_succ_cons List.take_succ_cons List.take_zero if_true if_false setL List.set_cons_zero List.set_cons_succ List.all_cons List.all_nil one_int one_bool one_str one_nil one_ptr one_slc one_ro one_rop one_fn Bool.and_self Bool.and_true true_and and_true and_self Bool.false_eq_true post_ret post_normal resAll resOne packR Option.some.injEq exists_eq_left' List.map_cons List.map_nil List.nil_append List.append_nil List.cons_append d_nil d_cons k_nil k_cons g_op g_same g_new avBlock forall_eq' List.getElem?_cons_succ List.getElem?_cons_zero List.getElem?_nil okind gOk bne false_imp_iff forall_const imp_self implies_true true_imp_iff i_callG

def normV (vars : List (Int × Int)) : List (Int × Int) := vars.foldl (fun acc v => joinF acc [v]) []
def normN (n : Int) (vars : List (Int × Int)) : Int := vars.foldl (fun n v => if v.2 ≥ n then 0 else n) n
def normF (l : Lv) : Lv := ⟨normN l.n (normV l.vars), normV l.vars⟩

theorem foldl_len : ∀ (vars acc : List (Int × Int)), (vars.foldl (fun acc v => joinF acc [v]) acc).length ≤ acc.length + vars.length
  | [], acc => by simp
  | v :: r, acc => by
    have := foldl_len r (joinF acc [v])
    have h2 := joinF_len acc [v]
    simp at h2 ⊢
    omega
theorem normV_len (vars : List (Int × Int)) : (normV vars).length ≤ vars.length := by
  have := foldl_len vars []
  simpa [normV] using this

set_option maxRecDepth 100000 in
theorem norm_ok (l : Lv) (vx : AV) (vs : List AV) (h1 : SlR l.vars.length vx vs) (h2 : VarsR l.vars vs) (hn : l.vars.length ≤ 10000) (H : AHeap) :
    SCall Try.prog 199 [.agg [aint l.n, vx]] H fun x H' => (∃ y, x = .agg [aint (normF l).n, y] ∧ SlV (normF l).vars y) ∧ H' = H := by
  have main : SCall Try.prog 199 [.agg [aint l.n, vx]] H fun x H' => (∃ y, x = .agg [aint (normF l).n, y] ∧ SlV (normF l).vars y) ∧ Ext H H' := by
    refine SCall.intro mixed cf199 ?_
    have e1 : ¬ H.next + 1 = H.next := by omega
    have e2 : ¬ H.next = H.next + 1 := by omega
    simp -implicitDefEqProofs only [c199, go_sem, Nat.reduceEqDiff, Nat.reduceAdd, Nat.reduceLeDiff, ↓reduceIte, reduceCtorEq, Int.reduceBEq, Int.reduceBNe, Int.reduceLT, Int.reduceLE, Int.reduceGT, Int.reduceGE, Int.reduceNeg, Int.reduceAdd, Int.reduceSub, Nat.reduceMul, Nat.reduceLT, Int.reduceToNat, h1.one, h1.cells, fun H => h1.alen H, e1, e2]
    refine swp_range l.vars.length (fun i st => st.tm 10 = vx ∧ st.tm 11 = aint l.vars.length ∧ st.tm 12 = aint i ∧ st.tm 1 = .ptr H.next 0 ∧ st.tm 2 = .ptr (H.next + 1) 0 ∧ Ext H st.heap ∧ H.next + 2 ≤ st.heap.next ∧
      st.heap.get H.next = some (.cells [aint l.n, vx]) ∧ st.heap.get (H.next + 1) = some (.cells [aint 0, nils]) ∧
      ∃ acc, acc.length ≤ i ∧ normV l.vars = (l.vars.drop i).foldl (fun acc v => joinF acc [v]) acc ∧ SlV acc (st.tm 3)) ?_ ?_ ?_
    · refine ⟨rfl, rfl, rfl, rfl, rfl, ((Ext.refl H).new _).new _, ?_, ?_, ?_, [], ?_, rfl, ⟨⟨[], .inl ⟨rfl, rfl⟩, trivial⟩, .v _⟩⟩
      all_goals simp -implicitDefEqProofs only [go_sem, Nat.reduceEqDiff, Nat.reduceAdd, Nat.reduceLeDiff, ↓reduceIte, reduceCtorEq, Int.reduceBEq, Int.reduceBNe, Int.reduceLT, Int.reduceLE, Int.reduceGT, Int.reduceGE, Int.reduceNeg, Int.reduceAdd, Int.reduceSub, Nat.reduceMul, Nat.reduceLT, Int.reduceToNat, e1, e2]
      all_goals omega
    · rintro i ⟨tm, H2⟩ hi ⟨t10, t11, t12, t1, t2, hE, hn2, hg1, hg2, acc, hacc, hnv, hS⟩
      simp only at t10 t11 t12 t1 t2 hE hn2 hg1 hg2 hS
      generalize t3 : tm 3 = x3 at hS
      have hltI : (i : Int) < (l.vars.length : Int) := by omega
      have hix := h1.aix 2 hi
      obtain ⟨hle, hld⟩ := h2.at hi
      have w3 : IntKind.i64.wrap ((i : Int) + 1) = (i : Int) + 1 := i64_ok _ (by omega)
      have hdrop : l.vars.drop i = l.vars[i] :: l.vars.drop (i + 1) := List.drop_eq_getElem_cons hi
      rw [hdrop, List.foldl_cons] at hnv
      have e3 : ¬ H2.next + 1 = H2.next := by omega
      have e4 : ¬ H2.next = H2.next + 1 := by omega
      obtain ⟨⟨c3, q1, q2⟩, q3⟩ := hS
      simp -implicitDefEqProofs only [go_sem, Nat.reduceEqDiff, Nat.reduceAdd, Nat.reduceLeDiff, ↓reduceIte, reduceCtorEq, Int.reduceBEq, Int.reduceBNe, Int.reduceLT, Int.reduceLE, Int.reduceGT, Int.reduceGE, Int.reduceNeg, Int.reduceAdd, Int.reduceSub, Nat.reduceMul, Nat.reduceLT, Int.reduceToNat, t10, t11, t12, t1, t2, t3, hltI, hix, hle, hld, afill, e3, e4]
      refine i_callA (fs := []) (cs := []) ?_ ?_ (SCall.gives (b := H2.next + 1) (l := [aint l.vars[i].1, aint l.vars[i].2]) ?_ (.cons (.keep _) (.cons (.slc 0 2 1 1 true [aint l.vars[i].1, aint l.vars[i].2] (by simp) rfl) (.cons (.keep _) (.cons (.keep _) .nil)))) (joined_ok acc [l.vars[i]] x3 _ c3 _ q1 q2 (.inr ⟨1, true, rfl, Nat.le_refl _⟩) ⟨rfl, trivial⟩ (by simp; omega) _)) ?_
      · rfl
      · simp -implicitDefEqProofs only [go_sem, Nat.reduceEqDiff, Nat.reduceAdd, Nat.reduceLeDiff, ↓reduceIte, reduceCtorEq, Int.reduceBEq, Int.reduceBNe, Int.reduceLT, Int.reduceLE, Int.reduceGT, Int.reduceGE, Int.reduceNeg, Int.reduceAdd, Int.reduceSub, Nat.reduceMul, Nat.reduceLT, Int.reduceToNat, t3]
      · simp -implicitDefEqProofs only [go_sem, Nat.reduceEqDiff, Nat.reduceAdd, Nat.reduceLeDiff, ↓reduceIte, reduceCtorEq, Int.reduceBEq, Int.reduceBNe, Int.reduceLT, Int.reduceLE, Int.reduceGT, Int.reduceGE, Int.reduceNeg, Int.reduceAdd, Int.reduceSub, Nat.reduceMul, Nat.reduceLT, Int.reduceToNat, e3, e4]
      rintro x H3 ⟨hx, rfl⟩
      simp -implicitDefEqProofs only [go_sem, Nat.reduceEqDiff, Nat.reduceAdd, Nat.reduceLeDiff, ↓reduceIte, reduceCtorEq, Int.reduceBEq, Int.reduceBNe, Int.reduceLT, Int.reduceLE, Int.reduceGT, Int.reduceGE, Int.reduceNeg, Int.reduceAdd, Int.reduceSub, Nat.reduceMul, Nat.reduceLT, Int.reduceToNat, t12, w3]
      refine ⟨t10, t11, by simp, t1, t2, (((hE.new _).set (by omega) _).new _).kill (by omega), ?_, ?_, ?_, joinF acc [l.vars[i]], ?_, hnv, hx⟩
      · show H.next + 2 ≤ H2.next + 1 + 1
        omega
      · rw [kill_get, if_neg (by omega)]
        simp -implicitDefEqProofs only [go_sem, Nat.reduceEqDiff, Nat.reduceAdd, Nat.reduceLeDiff, ↓reduceIte, reduceCtorEq, Int.reduceBEq, Int.reduceBNe, Int.reduceLT, Int.reduceLE, Int.reduceGT, Int.reduceGE, Int.reduceNeg, Int.reduceAdd, Int.reduceSub, Nat.reduceMul, Nat.reduceLT, Int.reduceToNat, show ¬ H.next = H2.next by omega, show ¬ H.next = H2.next + 1 by omega]
        exact hg1
      · rw [kill_get, if_neg (by omega)]
        simp -implicitDefEqProofs only [go_sem, Nat.reduceEqDiff, Nat.reduceAdd, Nat.reduceLeDiff, ↓reduceIte, reduceCtorEq, Int.reduceBEq, Int.reduceBNe, Int.reduceLT, Int.reduceLE, Int.reduceGT, Int.reduceGE, Int.reduceNeg, Int.reduceAdd, Int.reduceSub, Nat.reduceMul, Nat.reduceLT, Int.reduceToNat, show ¬ H.next + 1 = H2.next by omega, show ¬ H.next + 1 = H2.next + 1 by omega]
        exact hg2
      · have := joinF_len acc [l.vars[i]]
        simp at this
        omega
    · rintro ⟨tm, H2⟩ ⟨t10, t11, t12, t1, t2, hE, hn2, hg1, hg2, acc, hacc, hnv, hS⟩
      simp only at t10 t11 t12 t1 t2 hE hn2 hg1 hg2 hS
      generalize t3 : tm 3 = x3 at hS
      rw [List.drop_length, List.foldl_nil] at hnv
      subst hnv
      have hS' := hS
      obtain ⟨⟨c3, q1, q2⟩, q3⟩ := hS
      have e3 : ¬ H2.next = H.next := by omega
      have e5 : ¬ H.next = H2.next := by omega
      have e6 : ¬ H.next + 1 = H2.next := by omega
      have e7 : ¬ H2.next = H.next + 1 := by omega
      simp -implicitDefEqProofs only [go_sem, Nat.reduceEqDiff, Nat.reduceAdd, Nat.reduceLeDiff, ↓reduceIte, reduceCtorEq, Int.reduceBEq, Int.reduceBNe, Int.reduceLT, Int.reduceLE, Int.reduceGT, Int.reduceGE, Int.reduceNeg, Int.reduceAdd, Int.reduceSub, Nat.reduceMul, Nat.reduceLT, Int.reduceToNat, t10, t11, t12, t1, t2, t3, Int.lt_irrefl, hg1, hg2, afill, q1.one, q1.cells, fun H => q1.alen H, e3, e5]
      refine swp_range (normV l.vars).length (fun i st => st.tm 25 = x3 ∧ st.tm 26 = aint (normV l.vars).length ∧ st.tm 27 = aint i ∧ st.tm 2 = .ptr (H.next + 1) 0 ∧ st.tm 6 = .ptr H2.next 0 ∧ Ext H st.heap ∧ H2.next + 1 ≤ st.heap.next ∧
        st.heap.get (H.next + 1) = some (.cells [aint 0, nils]) ∧
        ∃ n, st.heap.get H2.next = some (.cells [aint n, x3]) ∧ normN l.n (normV l.vars) = ((normV l.vars).drop i).foldl (fun n v => if v.2 ≥ n then 0 else n) n) ?_ ?_ ?_
      · refine ⟨?_, ?_, ?_, ?_, ?_, (hE.new _).set (by omega) _, ?_, ?_, l.n, ?_, rfl⟩
        all_goals simp -implicitDefEqProofs only [go_sem, Nat.reduceEqDiff, Nat.reduceAdd, Nat.reduceLeDiff, ↓reduceIte, reduceCtorEq, Int.reduceBEq, Int.reduceBNe, Int.reduceLT, Int.reduceLE, Int.reduceGT, Int.reduceGE, Int.reduceNeg, Int.reduceAdd, Int.reduceSub, Nat.reduceMul, Nat.reduceLT, Int.reduceToNat, t2, t3, e6, hg2]
        all_goals first | rfl | omega
      · rintro i ⟨tm, H5⟩ hi ⟨t25, t26, t27, t2, t6, hE5, hn5, hg5, n, hg6, hr⟩
        simp only at t25 t26 t27 t2 t6 hE5 hn5 hg5 hg6
        have hltI : (i : Int) < ((normV l.vars).length : Int) := by omega
        have hix := q1.aix 2 hi
        obtain ⟨hle, hld⟩ := q2.at hi
        have := normV_len l.vars
        have w3 : IntKind.i64.wrap ((i : Int) + 1) = (i : Int) + 1 := i64_ok _ (by omega)
        have hdrop : (normV l.vars).drop i = (normV l.vars)[i] :: (normV l.vars).drop (i + 1) := List.drop_eq_getElem_cons hi
        rw [hdrop, List.foldl_cons] at hr
        have k1 : ¬ H2.next = H5.next := by omega
        have k2 : ¬ H.next + 1 = H5.next := by omega
        have k3 : ¬ H5.next = H2.next := by omega
        by_cases hc : (normV l.vars)[i].2 ≥ n
        · rw [if_pos hc] at hr
          simp -implicitDefEqProofs only [go_sem, Nat.reduceEqDiff, Nat.reduceAdd, Nat.reduceLeDiff, ↓reduceIte, reduceCtorEq, Int.reduceBEq, Int.reduceBNe, Int.reduceLT, Int.reduceLE, Int.reduceGT, Int.reduceGE, Int.reduceNeg, Int.reduceAdd, Int.reduceSub, Nat.reduceMul, Nat.reduceLT, Int.reduceToNat, t25, t26, t27, t2, t6, hltI, hix, hle, hld, hg6, k1, k2, k3, hc, w3, q1.one, q1.cells]
          refine ⟨by simp, ((hE5.new _).set hE5.1 _).set (by omega) _, by omega, ?_, 0, rfl, hr⟩
          rw [if_neg (by omega)]
          exact hg5
        · rw [if_neg hc] at hr
          simp -implicitDefEqProofs only [go_sem, Nat.reduceEqDiff, Nat.reduceAdd, Nat.reduceLeDiff, ↓reduceIte, reduceCtorEq, Int.reduceBEq, Int.reduceBNe, Int.reduceLT, Int.reduceLE, Int.reduceGT, Int.reduceGE, Int.reduceNeg, Int.reduceAdd, Int.reduceSub, Nat.reduceMul, Nat.reduceLT, Int.reduceToNat, t25, t26, t27, t2, t6, hltI, hix, hle, hld, hg6, k1, k2, k3, hc, w3, q1.one, q1.cells, hg5]
          exact ⟨by simp, (hE5.new _).set hE5.1 _, by omega, n, rfl, hr⟩
      · rintro ⟨tm, H5⟩ ⟨t25, t26, t27, t2, t6, hE5, hn5, hg5, n, hg6, hr⟩
        simp only at t25 t26 t27 t2 t6 hE5 hn5 hg5 hg6
        rw [List.drop_length, List.foldl_nil] at hr
        simp -implicitDefEqProofs only [go_sem, Nat.reduceEqDiff, Nat.reduceAdd, Nat.reduceLeDiff, ↓reduceIte, reduceCtorEq, Int.reduceBEq, Int.reduceBNe, Int.reduceLT, Int.reduceLE, Int.reduceGT, Int.reduceGE, Int.reduceNeg, Int.reduceAdd, Int.reduceSub, Nat.reduceMul, Nat.reduceLT, Int.reduceToNat, t25, t26, t27, t2, t6, Int.lt_irrefl, hg6, hg5, q1.one, q1.cells]
        exact ⟨⟨x3, by simp only [normF, hr], hS'⟩, hE5.set (by omega) _⟩
  refine main.frz fun _ _ x H' ⟨⟨y, hx, hy⟩, hE⟩ _ => ⟨hE, x, .keep _ ?_, y, hx, hy⟩
  subst hx
  exact .agg _ fun z hz => by
    simp at hz
    rcases hz with rfl | rfl
    · exact .v _
    · exact hy.2.mono (Nat.zero_le _)

/-- An answer with an error, of levels. -/
def LvE (l : Lv) (e : Int) (x : AV) : Prop := ∃ y, x = .tup [.agg [aint l.n, y], aint e] ∧ SlV l.vars y
def lv0 : Lv := ⟨0, []⟩
theorem slv_nil : SlV [] nils := ⟨⟨[], .inl ⟨rfl, rfl⟩, trivial⟩, .v _⟩
theorem LvE.old {l : Lv} {e : Int} {x : AV} (h : LvE l e x) (n : Nat) : Old n x := by
  obtain ⟨y, rfl, hy⟩ := h
  refine .tup _ fun z hz => ?_
  simp at hz
  rcases hz with rfl | rfl
  · exact .agg _ fun z hz => by
      simp at hz
      rcases hz with rfl | rfl
      · exact .v _
      · exact hy.2.mono (Nat.zero_le _)
  · exact .v _

def NormF (l : Lv) : Lv × Int := if rightF l = true then (normF l, 0) else (lv0, 13)

set_option maxRecDepth 100000 in
theorem Norm_ok (l : Lv) (vx : AV) (vs : List AV) (h1 : SlR l.vars.length vx vs) (h2 : VarsR l.vars vs) (hn : l.vars.length ≤ 4611686018427387904) (H : AHeap) :
    SCall Try.prog 178 [.agg [aint l.n, vx]] H fun x H' => LvE (NormF l).1 (NormF l).2 x ∧ H' = H := by
  have main : SCall Try.prog 178 [.agg [aint l.n, vx]] H fun x H' => LvE (NormF l).1 (NormF l).2 x ∧ Ext H H' := by
    refine SCall.intro mixed cf178 ?_
    have e1 : ¬ H.next + 1 = H.next := by omega
    have e2 : ¬ H.next = H.next + 1 := by omega
    simp -implicitDefEqProofs only [c178, go_sem, Nat.reduceEqDiff, Nat.reduceAdd, Nat.reduceLeDiff, ↓reduceIte, reduceCtorEq, Int.reduceBEq, Int.reduceBNe, Int.reduceLT, Int.reduceLE, Int.reduceGT, Int.reduceGE, Int.reduceNeg, Int.reduceAdd, Int.reduceSub, Nat.reduceMul, Nat.reduceLT, Int.reduceToNat, h1.one, h1.cells, e1, e2]
    refine i_callA (fs := []) (cs := []) ?_ ?_ (right_ok l vx vs h1 h2 hn _) ?_
    · rfl
    · simp -implicitDefEqProofs only [go_sem, Nat.reduceEqDiff, Nat.reduceAdd, Nat.reduceLeDiff, ↓reduceIte, reduceCtorEq, Int.reduceBEq, Int.reduceBNe, Int.reduceLT, Int.reduceLE, Int.reduceGT, Int.reduceGE, Int.reduceNeg, Int.reduceAdd, Int.reduceSub, Nat.reduceMul, Nat.reduceLT, Int.reduceToNat]
    rintro x H3 ⟨rfl, rfl⟩
    cases hr : rightF l with
    | false =>
      simp -implicitDefEqProofs only [go_sem, Nat.reduceEqDiff, Nat.reduceAdd, Nat.reduceLeDiff, ↓reduceIte, reduceCtorEq, Int.reduceBEq, Int.reduceBNe, Int.reduceLT, Int.reduceLE, Int.reduceGT, Int.reduceGE, Int.reduceNeg, Int.reduceAdd, Int.reduceSub, Nat.reduceMul, Nat.reduceLT, Int.reduceToNat, afill, e1, e2]
      exact ⟨⟨nils, by simp [NormF, hr, lv0], by simp [NormF, hr, lv0]; exact slv_nil⟩, ((((Ext.refl H).new _).new _).set (by omega) _)⟩
    | true =>
      simp -implicitDefEqProofs only [go_sem, Nat.reduceEqDiff, Nat.reduceAdd, Nat.reduceLeDiff, ↓reduceIte, reduceCtorEq, Int.reduceBEq, Int.reduceBNe, Int.reduceLT, Int.reduceLE, Int.reduceGT, Int.reduceGE, Int.reduceNeg, Int.reduceAdd, Int.reduceSub, Nat.reduceMul, Nat.reduceLT, Int.reduceToNat, e1, e2]
      have hl : l.vars.length ≤ 64 := by
        simp only [rightF, Bool.and_eq_true, decide_eq_true_eq] at hr
        exact hr.1.2
      refine i_callA (fs := []) (cs := []) ?_ ?_ (norm_ok l vx vs h1 h2 (by omega) _) ?_
      · rfl
      · simp -implicitDefEqProofs only [go_sem, Nat.reduceEqDiff, Nat.reduceAdd, Nat.reduceLeDiff, ↓reduceIte, reduceCtorEq, Int.reduceBEq, Int.reduceBNe, Int.reduceLT, Int.reduceLE, Int.reduceGT, Int.reduceGE, Int.reduceNeg, Int.reduceAdd, Int.reduceSub, Nat.reduceMul, Nat.reduceLT, Int.reduceToNat]
      rintro x H3 ⟨⟨y, rfl, hy⟩, rfl⟩
      obtain ⟨⟨c3, q1, q2⟩, q3⟩ := id hy
      simp -implicitDefEqProofs only [go_sem, Nat.reduceEqDiff, Nat.reduceAdd, Nat.reduceLeDiff, ↓reduceIte, reduceCtorEq, Int.reduceBEq, Int.reduceBNe, Int.reduceLT, Int.reduceLE, Int.reduceGT, Int.reduceGE, Int.reduceNeg, Int.reduceAdd, Int.reduceSub, Nat.reduceMul, Nat.reduceLT, Int.reduceToNat, e1, e2, q1.one, q1.cells]
      exact ⟨⟨y, by simp [NormF, hr], by simp [NormF, hr]; exact hy⟩, ((((Ext.refl H).new _).new _).set (by omega) _)⟩
  exact main.frz fun _ _ x H' ⟨hx, hE⟩ _ => ⟨hE, x, .keep _ (hx.old _), hx⟩

def canF (l : Lv) : Bool := rightF l && ((normF l).n == l.n) && decide ((normF l).vars = l.vars)

set_option maxRecDepth 100000 in
theorem can_ok (l : Lv) (hn : l.vars.length ≤ 4611686018427387904) : CanSpec canF l := by
  intro vx vs H h1 h2
  refine SCall.val (SCall.intro mixed cf173 ?_)
  have e1 : ¬ H.next + 1 = H.next := by omega
  have e2 : ¬ H.next = H.next + 1 := by omega
  simp -implicitDefEqProofs only [c173, go_sem, Nat.reduceEqDiff, Nat.reduceAdd, Nat.reduceLeDiff, ↓reduceIte, reduceCtorEq, Int.reduceBEq, Int.reduceBNe, Int.reduceLT, Int.reduceLE, Int.reduceGT, Int.reduceGE, Int.reduceNeg, Int.reduceAdd, Int.reduceSub, Nat.reduceMul, Nat.reduceLT, Int.reduceToNat, h1.one, h1.cells, e1, e2]
  refine i_callA (fs := []) (cs := []) ?_ ?_ (Norm_ok l vx vs h1 h2 hn _) ?_
  · rfl
  · simp -implicitDefEqProofs only [go_sem, Nat.reduceEqDiff, Nat.reduceAdd, Nat.reduceLeDiff, ↓reduceIte, reduceCtorEq, Int.reduceBEq, Int.reduceBNe, Int.reduceLT, Int.reduceLE, Int.reduceGT, Int.reduceGE, Int.reduceNeg, Int.reduceAdd, Int.reduceSub, Nat.reduceMul, Nat.reduceLT, Int.reduceToNat]
  rintro x H3 ⟨⟨y, rfl, hy⟩, rfl⟩
  obtain ⟨⟨c3, q1, q2⟩, q3⟩ := id hy
  have hE : ∀ o1 o2 o3, Ext H (((H.new o1).new o2).set (H.next + 1) o3) := fun o1 o2 o3 => (((Ext.refl H).new _).new _).set (by omega) _
  cases hr : rightF l with
  | false =>
    have hN : (NormF l).2 = 13 := by simp [NormF, hr]
    simp -implicitDefEqProofs only [go_sem, Nat.reduceEqDiff, Nat.reduceAdd, Nat.reduceLeDiff, ↓reduceIte, reduceCtorEq, Int.reduceBEq, Int.reduceBNe, Int.reduceLT, Int.reduceLE, Int.reduceGT, Int.reduceGE, Int.reduceNeg, Int.reduceAdd, Int.reduceSub, Nat.reduceMul, Nat.reduceLT, Int.reduceToNat, e1, e2, q1.one, q1.cells, hN]
    exact ⟨by simp [canF, hr], hE _ _ _⟩
  | true =>
  have hN : NormF l = (normF l, 0) := by simp [NormF, hr]
  rw [hN] at q1 q2 ⊢
  cases hnn : ((normF l).n == l.n) with
  | false =>
    simp -implicitDefEqProofs only [go_sem, Nat.reduceEqDiff, Nat.reduceAdd, Nat.reduceLeDiff, ↓reduceIte, reduceCtorEq, Int.reduceBEq, Int.reduceBNe, Int.reduceLT, Int.reduceLE, Int.reduceGT, Int.reduceGE, Int.reduceNeg, Int.reduceAdd, Int.reduceSub, Nat.reduceMul, Nat.reduceLT, Int.reduceToNat, e1, e2, q1.one, q1.cells, hnn]
    exact ⟨by simp [canF, hnn], hE _ _ _⟩
  | true =>
    simp -implicitDefEqProofs only [go_sem, Nat.reduceEqDiff, Nat.reduceAdd, Nat.reduceLeDiff, ↓reduceIte, reduceCtorEq, Int.reduceBEq, Int.reduceBNe, Int.reduceLT, Int.reduceLE, Int.reduceGT, Int.reduceGE, Int.reduceNeg, Int.reduceAdd, Int.reduceSub, Nat.reduceMul, Nat.reduceLT, Int.reduceToNat, e1, e2, q1.one, q1.cells, hnn]
    have hl : l.vars.length ≤ 64 := by
      simp only [rightF, Bool.and_eq_true, decide_eq_true_eq] at hr
      exact hr.1.2
    have := normV_len l.vars
    refine i_callA (fs := []) (cs := []) ?_ ?_ (equal_ok _ _ _ _ _ _ q1 q2 h1 h2 (by simp only [normF]; omega) _) ?_
    · rfl
    · simp -implicitDefEqProofs only [go_sem, Nat.reduceEqDiff, Nat.reduceAdd, Nat.reduceLeDiff, ↓reduceIte, reduceCtorEq, Int.reduceBEq, Int.reduceBNe, Int.reduceLT, Int.reduceLE, Int.reduceGT, Int.reduceGE, Int.reduceNeg, Int.reduceAdd, Int.reduceSub, Nat.reduceMul, Nat.reduceLT, Int.reduceToNat]
    rintro x H3 ⟨rfl, rfl⟩
    simp -implicitDefEqProofs only [go_sem, Nat.reduceEqDiff, Nat.reduceAdd, Nat.reduceLeDiff, ↓reduceIte, reduceCtorEq, Int.reduceBEq, Int.reduceBNe, Int.reduceLT, Int.reduceLE, Int.reduceGT, Int.reduceGE, Int.reduceNeg, Int.reduceAdd, Int.reduceSub, Nat.reduceMul, Nat.reduceLT, Int.reduceToNat]
    exact ⟨by simp [canF, hr, hnn], hE _ _ _⟩
end Go.Proofs.Ytooaiddfokbffaa.E

/- The canonical level, as the reference makes it. Conditions: none. -/
set_option linter.unusedVariables false
set_option linter.unusedSimpArgs false
namespace Go.Proofs.Ytooaiddfokbffaa.E
open Go Go.Proofs
attribute [local go_sem] s_seq s_ops s_draw s_block s_skip s_ret s_exit i_nil i_cons i_run i_runG s_condQ c_true c_false aop ev_t ev_c updO_at updO_no upd_at t_normal t_ret t_exit b_normal b_ret b_exit a_some ac_v ac_agg ac_ptr ac_slc ac_ro ac_rop ac_fn new_next set_next argTm_zero argTm_succ argTm_nil ab_bool ab_uv beq_self_eq_true Option.some_beq_some Bool.not_not beq_iff_eq decide_true decide_false Bool.not_true Bool.not_false afld aload astore apack alen_str alen_ro alen_slc alen_nil new_get set_get ite_true ite_false Option.map_some Option.bind_some ibin isShift Nat.add_zero Nat.zero_add List.length_cons List.length_nil List.drop_zero List.drop_succ_cons List.take_succ_cons List.take_zero if_true if_false setL List.set_cons_zero List.set_cons_succ List.all_cons List.all_nil one_int one_bool one_str one_nil one_ptr one_slc one_ro one_rop one_fn Bool.and_self Bool.and_true true_and and_true and_self Bool.false_eq_true post_ret post_normal resAll resOne packR Option.some.injEq exists_eq_left' List.map_cons List.map_nil List.nil_append List.append_nil List.cons_append d_nil d_cons k_nil k_cons g_op g_same g_new avBlock forall_eq' List.getElem?_cons_succ List.getElem?_cons_zero List.getElem?_nil okind gOk bne false_imp_iff forall_const imp_self implies_true true_imp_iff i_callG

set_option maxRecDepth 100000 in
theorem right2_ok (l : Lv) (vx : AV) (vs : List AV) (h1 : SlR l.vars.length vx vs) (h2 : VarsR l.vars vs) (hn : l.vars.length ≤ 4611686018427387904) (H : AHeap) :
    SCall Try.prog 183 [.agg [aint l.n, vx]] H fun x H' => x = abl (rightF l) ∧ H' = H := by
  refine SCall.val (SCall.intro mixed cf183 ?_)
  by_cases g1 : l.n < 0
  · simp -implicitDefEqProofs only [c183, go_sem, Nat.reduceEqDiff, Nat.reduceAdd, Nat.reduceLeDiff, ↓reduceIte, reduceCtorEq, Int.reduceBEq, Int.reduceBNe, Int.reduceLT, Int.reduceLE, Int.reduceGT, Int.reduceGE, Int.reduceNeg, Int.reduceAdd, Int.reduceSub, Nat.reduceMul, Nat.reduceLT, Int.reduceToNat, h1.one, h1.cells, g1]
    exact ⟨by simp [rightF, fineF]; omega, (Ext.refl H).new _⟩
  by_cases g2 : l.n > 1000
  · simp -implicitDefEqProofs only [c183, go_sem, Nat.reduceEqDiff, Nat.reduceAdd, Nat.reduceLeDiff, ↓reduceIte, reduceCtorEq, Int.reduceBEq, Int.reduceBNe, Int.reduceLT, Int.reduceLE, Int.reduceGT, Int.reduceGE, Int.reduceNeg, Int.reduceAdd, Int.reduceSub, Nat.reduceMul, Nat.reduceLT, Int.reduceToNat, h1.one, h1.cells, g1, g2]
    exact ⟨by simp [rightF, fineF]; omega, (Ext.refl H).new _⟩
  by_cases g3 : (l.vars.length : Int) > 64
  · simp -implicitDefEqProofs only [c183, go_sem, Nat.reduceEqDiff, Nat.reduceAdd, Nat.reduceLeDiff, ↓reduceIte, reduceCtorEq, Int.reduceBEq, Int.reduceBNe, Int.reduceLT, Int.reduceLE, Int.reduceGT, Int.reduceGE, Int.reduceNeg, Int.reduceAdd, Int.reduceSub, Nat.reduceMul, Nat.reduceLT, Int.reduceToNat, h1.one, h1.cells, g1, g2, fun H => h1.alen H, g3]
    exact ⟨by simp [rightF, fineF]; omega, (Ext.refl H).new _⟩
  have hR : rightF l = l.vars.all fun v => fineF v.1 && fineF v.2 := by
    simp only [rightF, fineF]
    rw [decide_eq_true (show l.n ≥ 0 by omega), decide_eq_true (show l.n ≤ 1000 by omega), decide_eq_true (show l.vars.length ≤ 64 by omega)]
    rfl
  simp -implicitDefEqProofs only [c183, go_sem, Nat.reduceEqDiff, Nat.reduceAdd, Nat.reduceLeDiff, ↓reduceIte, reduceCtorEq, Int.reduceBEq, Int.reduceBNe, Int.reduceLT, Int.reduceLE, Int.reduceGT, Int.reduceGE, Int.reduceNeg, Int.reduceAdd, Int.reduceSub, Nat.reduceMul, Nat.reduceLT, Int.reduceToNat, h1.one, h1.cells, g1, g2, fun H => h1.alen H, g3]
  refine swp_range l.vars.length (fun i st => st.tm 1 = .ptr H.next 0 ∧ st.tm 3 = aint i ∧ Ext H st.heap ∧ H.next + 1 ≤ st.heap.next ∧ st.heap.get H.next = some (.cells [aint l.n, vx]) ∧ rightF l = (l.vars.drop i).all fun v => fineF v.1 && fineF v.2) ?_ ?_ ?_
  · exact ⟨rfl, rfl, (Ext.refl H).new _, Nat.le_refl _, by simp -implicitDefEqProofs only [go_sem, Nat.reduceEqDiff, Nat.reduceAdd, Nat.reduceLeDiff, ↓reduceIte, reduceCtorEq, Int.reduceBEq, Int.reduceBNe, Int.reduceLT, Int.reduceLE, Int.reduceGT, Int.reduceGE, Int.reduceNeg, Int.reduceAdd, Int.reduceSub, Nat.reduceMul, Nat.reduceLT, Int.reduceToNat], by rw [hR]; rfl⟩
  · rintro i ⟨tm, H2⟩ hi ⟨t1, t3, hE, hn2, hg, hr⟩
    simp only at t1 t3 hE hn2 hg
    have hltI : (i : Int) < (l.vars.length : Int) := by omega
    have hix := h1.aix 2 hi
    obtain ⟨hle, hld⟩ := h2.at hi
    have w3 : IntKind.i64.wrap ((i : Int) + 1) = (i : Int) + 1 := i64_ok _ (by omega)
    have hdrop : l.vars.drop i = l.vars[i] :: l.vars.drop (i + 1) := List.drop_eq_getElem_cons hi
    rw [hdrop, List.all_cons] at hr
    have e1 : ¬ H.next = H2.next := by omega
    by_cases a1 : l.vars[i].1 < 0
    · simp -implicitDefEqProofs only [go_sem, Nat.reduceEqDiff, Nat.reduceAdd, Nat.reduceLeDiff, ↓reduceIte, reduceCtorEq, Int.reduceBEq, Int.reduceBNe, Int.reduceLT, Int.reduceLE, Int.reduceGT, Int.reduceGE, Int.reduceNeg, Int.reduceAdd, Int.reduceSub, Nat.reduceMul, Nat.reduceLT, Int.reduceToNat, t1, t3, hg, hltI, fun H => h1.alen H, hix, hle, hld, a1]
      exact ⟨by rw [hr]; simp [fineF]; omega, (hE.new _).set hE.1 _⟩
    by_cases a2 : l.vars[i].1 > 1000
    · simp -implicitDefEqProofs only [go_sem, Nat.reduceEqDiff, Nat.reduceAdd, Nat.reduceLeDiff, ↓reduceIte, reduceCtorEq, Int.reduceBEq, Int.reduceBNe, Int.reduceLT, Int.reduceLE, Int.reduceGT, Int.reduceGE, Int.reduceNeg, Int.reduceAdd, Int.reduceSub, Nat.reduceMul, Nat.reduceLT, Int.reduceToNat, t1, t3, hg, hltI, fun H => h1.alen H, hix, hle, hld, a1, a2]
      exact ⟨by rw [hr]; simp [fineF]; omega, (hE.new _).set hE.1 _⟩
    by_cases a3 : l.vars[i].2 < 0
    · simp -implicitDefEqProofs only [go_sem, Nat.reduceEqDiff, Nat.reduceAdd, Nat.reduceLeDiff, ↓reduceIte, reduceCtorEq, Int.reduceBEq, Int.reduceBNe, Int.reduceLT, Int.reduceLE, Int.reduceGT, Int.reduceGE, Int.reduceNeg, Int.reduceAdd, Int.reduceSub, Nat.reduceMul, Nat.reduceLT, Int.reduceToNat, t1, t3, hg, hltI, fun H => h1.alen H, hix, hle, hld, a1, a2, a3]
      exact ⟨by rw [hr]; simp [fineF]; omega, (hE.new _).set hE.1 _⟩
    by_cases a4 : l.vars[i].2 > 1000
    · simp -implicitDefEqProofs only [go_sem, Nat.reduceEqDiff, Nat.reduceAdd, Nat.reduceLeDiff, ↓reduceIte, reduceCtorEq, Int.reduceBEq, Int.reduceBNe, Int.reduceLT, Int.reduceLE, Int.reduceGT, Int.reduceGE, Int.reduceNeg, Int.reduceAdd, Int.reduceSub, Nat.reduceMul, Nat.reduceLT, Int.reduceToNat, t1, t3, hg, hltI, fun H => h1.alen H, hix, hle, hld, a1, a2, a3, a4]
      exact ⟨by rw [hr]; simp [fineF]; omega, (hE.new _).set hE.1 _⟩
    simp -implicitDefEqProofs only [go_sem, Nat.reduceEqDiff, Nat.reduceAdd, Nat.reduceLeDiff, ↓reduceIte, reduceCtorEq, Int.reduceBEq, Int.reduceBNe, Int.reduceLT, Int.reduceLE, Int.reduceGT, Int.reduceGE, Int.reduceNeg, Int.reduceAdd, Int.reduceSub, Nat.reduceMul, Nat.reduceLT, Int.reduceToNat, t1, t3, hg, hltI, fun H => h1.alen H, hix, hle, hld, a1, a2, a3, a4, w3]
    refine ⟨by simp, (hE.new _).set hE.1 _, by omega, ?_, ?_⟩
    · simp only [e1, if_false]
    · rw [hr]
      simp only [fineF]
      rw [decide_eq_true (show l.vars[i].1 ≥ 0 by omega), decide_eq_true (show l.vars[i].1 ≤ 1000 by omega), decide_eq_true (show l.vars[i].2 ≥ 0 by omega), decide_eq_true (show l.vars[i].2 ≤ 1000 by omega)]
      rfl
  · rintro ⟨tm, H2⟩ ⟨t1, t3, hE, hn2, hg, hr⟩
    simp only at t1 t3 hE hn2 hg
    simp -implicitDefEqProofs only [go_sem, Nat.reduceEqDiff, Nat.reduceAdd, Nat.reduceLeDiff, ↓reduceIte, reduceCtorEq, Int.reduceBEq, Int.reduceBNe, Int.reduceLT, Int.reduceLE, Int.reduceGT, Int.reduceGE, Int.reduceNeg, Int.reduceAdd, Int.reduceSub, Nat.reduceMul, Nat.reduceLT, Int.reduceToNat, t1, t3, hg, fun H => h1.alen H, Int.lt_irrefl]
    exact ⟨by rw [hr]; simp, hE⟩

/-! ### The variable that comes next, and the most that is added to it -/
def nextStep (last : Int) (s v : Int × Int) : Int × Int :=
  if v.1 ≤ last then s else if s.1 < 0 ∨ v.1 < s.1 then v else if v.1 = s.1 ∧ v.2 > s.2 then (s.1, v.2) else s
def nextF (last : Int) (vars : List (Int × Int)) : Int × Int := vars.foldl (nextStep last) (-1, 0)

def NextS (last : Int) (vars : List (Int × Int)) (s : Int × Int) : Prop :=
  (s = (-1, 0) ∧ ∀ v ∈ vars, v.1 ≤ last) ∨ (last < s.1 ∧ s ∈ vars ∧ ∀ v ∈ vars, last < v.1 → s.1 < v.1 ∨ (v.1 = s.1 ∧ v.2 ≤ s.2))

theorem nextS_step {last : Int} (hl : -1 ≤ last) {p : List (Int × Int)} {s : Int × Int} (h : NextS last p s) (v : Int × Int) : NextS last (p ++ [v]) (nextStep last s v) := by
  unfold nextStep
  by_cases c1 : v.1 ≤ last
  · rw [if_pos c1]
    rcases h with ⟨rfl, h⟩ | ⟨h1, h2, h3⟩
    · exact .inl ⟨rfl, fun u hu => by rcases List.mem_append.1 hu with hu | hu; exact h u hu; simp at hu; subst hu; exact c1⟩
    · refine .inr ⟨h1, List.mem_append_left _ h2, fun u hu hlu => ?_⟩
      rcases List.mem_append.1 hu with hu | hu
      · exact h3 u hu hlu
      · simp at hu; subst hu; omega
  rw [if_neg c1]
  by_cases c2 : s.1 < 0 ∨ v.1 < s.1
  · rw [if_pos c2]
    refine .inr ⟨by omega, by simp, fun u hu hlu => ?_⟩
    rcases List.mem_append.1 hu with hu | hu
    · rcases h with ⟨rfl, h⟩ | ⟨h1, h2, h3⟩
      · have := h u hu; omega
      · rcases h3 u hu hlu with h4 | h4 <;> exact .inl (by omega)
    · simp at hu; subst hu; exact .inr ⟨rfl, Int.le_refl _⟩
  rw [if_neg c2]
  rcases h with ⟨rfl, h⟩ | ⟨h1, h2, h3⟩
  · simp at c2
  by_cases c3 : v.1 = s.1 ∧ v.2 > s.2
  · rw [if_pos c3]
    have hv : (s.1, v.2) = v := Prod.ext c3.1.symm rfl
    refine .inr ⟨h1, by rw [hv]; simp, fun u hu hlu => ?_⟩
    rcases List.mem_append.1 hu with hu | hu
    · rcases h3 u hu hlu with h4 | ⟨h4, h5⟩
      · exact .inl h4
      · exact .inr ⟨h4, by simp only; omega⟩
    · simp at hu; subst hu; exact .inr ⟨c3.1, Int.le_refl _⟩
  · rw [if_neg c3]
    refine .inr ⟨h1, List.mem_append_left _ h2, fun u hu hlu => ?_⟩
    rcases List.mem_append.1 hu with hu | hu
    · exact h3 u hu hlu
    · simp at hu; subst hu
      by_cases h6 : u.1 = s.1
      · exact .inr ⟨h6, by omega⟩
      · exact .inl (by omega)

theorem nextF_spec {last : Int} (hl : -1 ≤ last) (vars : List (Int × Int)) : NextS last vars (nextF last vars) := by
  have key : ∀ (r p : List (Int × Int)) (s : Int × Int), NextS last p s → NextS last (p ++ r) (r.foldl (nextStep last) s) := by
    intro r
    induction r with
    | nil => intro p s h; simpa using h
    | cons v r ih =>
      intro p s h
      have := ih (p ++ [v]) _ (nextS_step hl h v)
      simpa using this
  exact key vars [] (-1, 0) (.inl ⟨rfl, fun v hv => by cases hv⟩)

def above (vars : List (Int × Int)) (last : Int) : Nat := (vars.filter fun v => decide (last < v.1)).length

theorem above_lt {vars : List (Int × Int)} {last : Int} {s : Int × Int} (hs : s ∈ vars) (hl : last < s.1) : above vars s.1 < above vars last := by
  unfold above
  induction vars with
  | nil => cases hs
  | cons v r ih =>
    have hle : (r.filter fun v => decide (s.1 < v.1)).length ≤ (r.filter fun v => decide (last < v.1)).length := by
      clear ih hs
      induction r with
      | nil => simp
      | cons u r ih =>
        simp only [List.filter_cons]
        by_cases c1 : s.1 < u.1
        · have c2 : last < u.1 := by omega
          simp [c1, c2]; omega
        · by_cases c2 : last < u.1
          · simp [c1, c2]; omega
          · simp [c1, c2]; omega
    simp only [List.filter_cons]
    rcases List.mem_cons.1 hs with rfl | hs
    · simp [hl]; omega
    · have := ih hs
      by_cases c1 : s.1 < v.1
      · have c2 : last < v.1 := by omega
        simp [c1, c2]; omega
      · by_cases c2 : last < v.1
        · simp [c1, c2]; omega
        · simp [c1, c2]; omega

def tidyV (vars : List (Int × Int)) : Nat → Int → List (Int × Int)
  | 0, _ => []
  | k + 1, last => if (nextF last vars).1 < 0 then [] else nextF last vars :: tidyV vars k (nextF last vars).1

theorem tidyV_more (vars : List (Int × Int)) : ∀ (k : Nat) (last : Int), -1 ≤ last → above vars last ≤ k → tidyV vars (k + 1) last = tidyV vars k last
  | 0, last, hl, hk => by
    simp only [tidyV]
    rcases nextF_spec hl vars with ⟨h, _⟩ | ⟨h1, h2, _⟩
    · rw [h]; rfl
    · have := above_lt h2 h1; omega
  | k + 1, last, hl, hk => by
    rw [tidyV]
    rcases nextF_spec hl vars with ⟨h, _⟩ | ⟨h1, h2, _⟩
    · simp only [tidyV, h]; rfl
    · have := above_lt h2 h1
      rw [if_neg (by omega), tidyV_more vars k _ (by omega) (by omega)]
      conv => rhs; rw [tidyV, if_neg (by omega)]

def tidyW (vars : List (Int × Int)) (last : Int) : List (Int × Int) := tidyV vars (above vars last) last
theorem tidyV_ge (vars : List (Int × Int)) {k : Nat} {last : Int} (hl : -1 ≤ last) (hk : above vars last ≤ k) : tidyV vars k last = tidyW vars last := by
  obtain ⟨d, rfl⟩ := Nat.exists_eq_add_of_le hk
  clear hk
  induction d with
  | zero => rfl
  | succ d ih => rw [← Nat.add_assoc, tidyV_more _ _ _ hl (by omega), ih]
theorem tidyW_nil {vars : List (Int × Int)} {last : Int} (hl : -1 ≤ last) (h : (nextF last vars).1 < 0) : tidyW vars last = [] := by
  rw [← tidyV_ge vars hl (Nat.le_succ _), tidyV, if_pos h]
theorem tidyW_cons {vars : List (Int × Int)} {last : Int} (hl : -1 ≤ last) (h : ¬ (nextF last vars).1 < 0) : tidyW vars last = nextF last vars :: tidyW vars (nextF last vars).1 := by
  rw [← tidyV_ge vars hl (Nat.le_succ _), tidyV, if_neg h, tidyV_ge]
  · omega
  · rcases nextF_spec hl vars with ⟨h', _⟩ | ⟨h1, h2, _⟩
    · rw [h'] at h; simp at h
    · have := above_lt h2 h1; omega

def tidyN (n : Int) (l : List (Int × Int)) : Int := if l.any (fun v => decide (v.2 ≥ n)) = true then 0 else n
def tidyF (l : Lv) : Lv := ⟨tidyN l.n (tidyW l.vars (-1)), tidyW l.vars (-1)⟩

set_option maxRecDepth 100000 in
theorem tidy_ok (l : Lv) (vx : AV) (vs : List AV) (h1 : SlR l.vars.length vx vs) (h2 : VarsR l.vars vs) (hn : l.vars.length ≤ 10000) (H : AHeap) :
    SCall Try.prog 184 [.agg [aint l.n, vx]] H fun x H' => (∃ y, x = .agg [aint (tidyF l).n, y] ∧ SlV (tidyF l).vars y) ∧ H' = H := by
  have main : SCall Try.prog 184 [.agg [aint l.n, vx]] H fun x H' => Ext H H' ∧ ∃ y, x = .agg [aint (tidyF l).n, y] ∧ OutS H' H.next 2 (tidyF l).vars.length (varsC (tidyF l).vars) y := by
    refine SCall.intro mixed cf184 ?_
    have e1 : ¬ H.next + 1 = H.next := by omega
    have e2 : ¬ H.next = H.next + 1 := by omega
    have e3 : ¬ H.next = H.next + 1 + 1 := by omega
    have e4 : ¬ H.next + 1 = H.next + 1 + 1 := by omega
    have e5 : ¬ H.next + 1 + 1 = H.next := by omega
    have e6 : ¬ H.next + 1 + 1 = H.next + 1 := by omega
    simp -implicitDefEqProofs only [c184, go_sem, Nat.reduceEqDiff, Nat.reduceAdd, Nat.reduceLeDiff, ↓reduceIte, reduceCtorEq, Int.reduceBEq, Int.reduceBNe, Int.reduceLT, Int.reduceLE, Int.reduceGT, Int.reduceGE, Int.reduceNeg, Int.reduceAdd, Int.reduceSub, Nat.reduceMul, Nat.reduceLT, Int.reduceToNat, h1.one, h1.cells, fun H => h1.alen H, e1, e2, e3, e4, e5, e6, afill]
    refine swp_loop (fun k st => ∃ (o : List (Int × Int)) (last n : Int) (xo : AV), k = above l.vars last ∧ o.length + above l.vars last ≤ l.vars.length ∧ -1 ≤ last ∧ tidyW l.vars (-1) = o ++ tidyW l.vars last ∧
      n = tidyN l.n o ∧ st.tm 1 = .ptr H.next 0 ∧ st.tm 2 = .ptr (H.next + 1) 0 ∧ st.tm 3 = .ptr (H.next + 2) 0 ∧ st.tm 4 = aint last ∧ Ext H st.heap ∧ H.next + 3 ≤ st.heap.next ∧
      st.heap.get H.next = some (.cells [aint l.n, vx]) ∧ st.heap.get (H.next + 1) = some (.cells [aint 0, nils]) ∧ st.heap.get (H.next + 2) = some (.cells [aint n, xo]) ∧ OutS st.heap (H.next + 3) 2 o.length (varsC o) xo) (k := above l.vars (-1)) ?_ ?_
    · refine ⟨[], -1, l.n, nils, rfl, ?_, by omega, rfl, rfl, ?_, ?_, ?_, ?_, ((((Ext.refl H).new _).new _).new _).set (by omega) _, ?_, ?_, ?_, ?_, .nil⟩
      · have := List.length_filter_le (fun v : Int × Int => decide (-1 < v.1)) l.vars
        simp only [above, List.length_nil]; omega
      all_goals simp -implicitDefEqProofs only [go_sem, Nat.reduceEqDiff, Nat.reduceAdd, Nat.reduceLeDiff, ↓reduceIte, reduceCtorEq, Int.reduceBEq, Int.reduceBNe, Int.reduceLT, Int.reduceLE, Int.reduceGT, Int.reduceGE, Int.reduceNeg, Int.reduceAdd, Int.reduceSub, Nat.reduceMul, Nat.reduceLT, Int.reduceToNat, e1, e2, e3, e4, e5, e6]
      all_goals first | rfl | omega
    rintro k ⟨tm, Hs⟩ ⟨o, last, n, xo, rfl, hol, hla, htw, hn', t1, t2, t3, t4, hE, hnx, hg0, hg1, hg2, hO⟩
    simp only at t1 t2 t3 t4 hE hnx hg0 hg1 hg2 hO
    have hxo : ∀ b off es' n' lo ex, xo = .slc b off es' n' lo ex → H.next + 3 ≤ b ∧ b < Hs.next := by
      intro b off es' n' lo ex hx
      rcases hO with ⟨_, _, rfl⟩ | ⟨b0, g1, g2, rfl, g3⟩
      · cases hx
      · injection hx with hx; subst hx; exact ⟨g1, g2⟩
    simp -implicitDefEqProofs only [go_sem, Nat.reduceEqDiff, Nat.reduceAdd, Nat.reduceLeDiff, ↓reduceIte, reduceCtorEq, Int.reduceBEq, Int.reduceBNe, Int.reduceLT, Int.reduceLE, Int.reduceGT, Int.reduceGE, Int.reduceNeg, Int.reduceAdd, Int.reduceSub, Nat.reduceMul, Nat.reduceLT, Int.reduceToNat, t1, t2, t3, t4]
    refine swp_range l.vars.length (fun i st => st.tm 1 = .ptr H.next 0 ∧ st.tm 2 = .ptr (H.next + 1) 0 ∧ st.tm 3 = .ptr (H.next + 2) 0 ∧ st.tm 4 = aint last ∧ st.tm 7 = aint i ∧ Ext Hs st.heap ∧
      ∃ s : Int × Int, st.tm 5 = aint s.1 ∧ st.tm 6 = aint s.2 ∧ nextF last l.vars = (l.vars.drop i).foldl (nextStep last) s) ?_ ?_ ?_
    · refine ⟨?_, ?_, ?_, ?_, rfl, Ext.refl _, (-1, 0), rfl, rfl, rfl⟩
      all_goals simp -implicitDefEqProofs only [go_sem, Nat.reduceEqDiff, Nat.reduceAdd, Nat.reduceLeDiff, ↓reduceIte, reduceCtorEq, Int.reduceBEq, Int.reduceBNe, Int.reduceLT, Int.reduceLE, Int.reduceGT, Int.reduceGE, Int.reduceNeg, Int.reduceAdd, Int.reduceSub, Nat.reduceMul, Nat.reduceLT, Int.reduceToNat, t1, t2, t3, t4]
    · rintro i ⟨tm, H2⟩ hi ⟨t1, t2, t3, t4, t7, hE2, s, t5, t6, hr⟩
      simp only at t1 t2 t3 t4 t5 t6 t7 hE2
      have hltI : (i : Int) < (l.vars.length : Int) := by omega
      have hix := h1.aix 2 hi
      obtain ⟨hle, hld⟩ := h2.at hi
      have w3 : IntKind.i64.wrap ((i : Int) + 1) = (i : Int) + 1 := i64_ok _ (by omega)
      have hdrop : l.vars.drop i = l.vars[i] :: l.vars.drop (i + 1) := List.drop_eq_getElem_cons hi
      rw [hdrop, List.foldl_cons] at hr
      have hg0' : H2.get H.next = some (.cells [aint l.n, vx]) := (hE2.2 _ (by omega)).trans hg0
      have hE3 : ∀ o1 o2, Ext Hs ((H2.new o1).set H2.next o2) := fun o1 o2 => (hE2.new _).set hE2.1 _
      by_cases a1 : l.vars[i].1 ≤ last
      · rw [nextStep, if_pos a1] at hr
        simp -implicitDefEqProofs only [go_sem, Nat.reduceEqDiff, Nat.reduceAdd, Nat.reduceLeDiff, ↓reduceIte, reduceCtorEq, Int.reduceBEq, Int.reduceBNe, Int.reduceLT, Int.reduceLE, Int.reduceGT, Int.reduceGE, Int.reduceNeg, Int.reduceAdd, Int.reduceSub, Nat.reduceMul, Nat.reduceLT, Int.reduceToNat, t1, t2, t3, t4, t5, t6, t7, hg0', fun H => h1.alen H, hltI, hix, hle, hld, a1, w3]
        exact ⟨by simp, hE3 _ _, s, rfl, rfl, hr⟩
      rw [nextStep, if_neg a1] at hr
      by_cases a2 : s.1 < 0
      · rw [if_pos (.inl a2)] at hr
        simp -implicitDefEqProofs only [go_sem, Nat.reduceEqDiff, Nat.reduceAdd, Nat.reduceLeDiff, ↓reduceIte, reduceCtorEq, Int.reduceBEq, Int.reduceBNe, Int.reduceLT, Int.reduceLE, Int.reduceGT, Int.reduceGE, Int.reduceNeg, Int.reduceAdd, Int.reduceSub, Nat.reduceMul, Nat.reduceLT, Int.reduceToNat, t1, t2, t3, t4, t5, t6, t7, hg0', fun H => h1.alen H, hltI, hix, hle, hld, a1, a2, w3]
        exact ⟨by simp, hE3 _ _, l.vars[i], rfl, rfl, hr⟩
      by_cases a3 : l.vars[i].1 < s.1
      · rw [if_pos (.inr a3)] at hr
        simp -implicitDefEqProofs only [go_sem, Nat.reduceEqDiff, Nat.reduceAdd, Nat.reduceLeDiff, ↓reduceIte, reduceCtorEq, Int.reduceBEq, Int.reduceBNe, Int.reduceLT, Int.reduceLE, Int.reduceGT, Int.reduceGE, Int.reduceNeg, Int.reduceAdd, Int.reduceSub, Nat.reduceMul, Nat.reduceLT, Int.reduceToNat, t1, t2, t3, t4, t5, t6, t7, hg0', fun H => h1.alen H, hltI, hix, hle, hld, a1, a2, a3, w3]
        exact ⟨by simp, hE3 _ _, l.vars[i], rfl, rfl, hr⟩
      rw [if_neg (by omega)] at hr
      by_cases a4 : l.vars[i].1 = s.1
      · have a4' : (l.vars[i].1 == s.1) = true := by rw [a4]; simp
        by_cases a5 : l.vars[i].2 > s.2
        · rw [if_pos ⟨a4, a5⟩] at hr
          simp -implicitDefEqProofs only [go_sem, Nat.reduceEqDiff, Nat.reduceAdd, Nat.reduceLeDiff, ↓reduceIte, reduceCtorEq, Int.reduceBEq, Int.reduceBNe, Int.reduceLT, Int.reduceLE, Int.reduceGT, Int.reduceGE, Int.reduceNeg, Int.reduceAdd, Int.reduceSub, Nat.reduceMul, Nat.reduceLT, Int.reduceToNat, t1, t2, t3, t4, t5, t6, t7, hg0', fun H => h1.alen H, hltI, hix, hle, hld, a1, a2, a3, a4', a5, w3]
          exact ⟨by simp, hE3 _ _, (s.1, l.vars[i].2), rfl, rfl, hr⟩
        · rw [if_neg (fun h => a5 h.2)] at hr
          simp -implicitDefEqProofs only [go_sem, Nat.reduceEqDiff, Nat.reduceAdd, Nat.reduceLeDiff, ↓reduceIte, reduceCtorEq, Int.reduceBEq, Int.reduceBNe, Int.reduceLT, Int.reduceLE, Int.reduceGT, Int.reduceGE, Int.reduceNeg, Int.reduceAdd, Int.reduceSub, Nat.reduceMul, Nat.reduceLT, Int.reduceToNat, t1, t2, t3, t4, t5, t6, t7, hg0', fun H => h1.alen H, hltI, hix, hle, hld, a1, a2, a3, a4', a5, w3]
          exact ⟨by simp, hE3 _ _, s, rfl, rfl, hr⟩
      · have a4' : (l.vars[i].1 == s.1) = false := by simpa using a4
        rw [if_neg (fun h => a4 h.1)] at hr
        simp -implicitDefEqProofs only [go_sem, Nat.reduceEqDiff, Nat.reduceAdd, Nat.reduceLeDiff, ↓reduceIte, reduceCtorEq, Int.reduceBEq, Int.reduceBNe, Int.reduceLT, Int.reduceLE, Int.reduceGT, Int.reduceGE, Int.reduceNeg, Int.reduceAdd, Int.reduceSub, Nat.reduceMul, Nat.reduceLT, Int.reduceToNat, t1, t2, t3, t4, t5, t6, t7, hg0', fun H => h1.alen H, hltI, hix, hle, hld, a1, a2, a3, a4', w3]
        exact ⟨by simp, hE3 _ _, s, rfl, rfl, hr⟩
    · rintro ⟨tm, H2⟩ ⟨t1, t2, t3, t4, t7, hE2, s, t5, t6, hr⟩
      simp only at t1 t2 t3 t4 t5 t6 t7 hE2
      rw [List.drop_length, List.foldl_nil] at hr
      have hg0' : H2.get H.next = some (.cells [aint l.n, vx]) := (hE2.2 _ (by omega)).trans hg0
      have hg1' : H2.get (H.next + 1) = some (.cells [aint 0, nils]) := (hE2.2 _ (by omega)).trans hg1
      have hg2' : H2.get (H.next + 2) = some (.cells [aint n, xo]) := (hE2.2 _ (by omega)).trans hg2
      have hO2 : OutS H2 (H.next + 3) 2 o.length (varsC o) xo := hO.keep hE2.1 fun b off es' n' lo ex hx => hE2.2 b (hxo b off es' n' lo ex hx).2
      by_cases hs : s.1 < 0
      · have hw := tidyW_nil hla (by rw [hr]; exact hs)
        rw [hw, List.append_nil] at htw
        simp -implicitDefEqProofs only [go_sem, Nat.reduceEqDiff, Nat.reduceAdd, Nat.reduceLeDiff, ↓reduceIte, reduceCtorEq, Int.reduceBEq, Int.reduceBNe, Int.reduceLT, Int.reduceLE, Int.reduceGT, Int.reduceGE, Int.reduceNeg, Int.reduceAdd, Int.reduceSub, Nat.reduceMul, Nat.reduceLT, Int.reduceToNat, t1, t2, t3, t4, t5, t6, t7, hg0', hg1', hg2', fun H => h1.alen H, Int.lt_irrefl, hs, hO2.one, hO2.cells]
        refine ⟨(hE.trans hE2).set (by omega) _, xo, ?_, ?_⟩
        · simp only [tidyF, htw, hn']
        · simp only [tidyF, htw]
          refine (hO2.set (fun off es' n' lo ex hx => ?_) _).low (by omega)
          have := (hxo _ off es' n' lo ex hx).1
          omega
      · have hw := tidyW_cons hla (by rw [hr]; exact hs)
        rw [hr] at hw
        have hin : last < s.1 ∧ s ∈ l.vars := by
          rcases nextF_spec hla l.vars with ⟨h, _⟩ | ⟨g1, g2, _⟩
          · rw [hr] at h; rw [h] at hs; simp at hs
          · rw [hr] at g1 g2; exact ⟨g1, g2⟩
        have hab := above_lt hin.2 hin.1
        have hE4 := hE.trans hE2
        have hH2 := hE2.1
        simp -implicitDefEqProofs only [go_sem, Nat.reduceEqDiff, Nat.reduceAdd, Nat.reduceLeDiff, ↓reduceIte, reduceCtorEq, Int.reduceBEq, Int.reduceBNe, Int.reduceLT, Int.reduceLE, Int.reduceGT, Int.reduceGE, Int.reduceNeg, Int.reduceAdd, Int.reduceSub, Nat.reduceMul, Nat.reduceLT, Int.reduceToNat, t1, t2, t3, t4, t5, t6, t7, hg0', hg1', hg2', fun H => h1.alen H, Int.lt_irrefl, hs, hO2.one, hO2.cells, afill]
        refine (hO2.new _).step (m := 1) (new := [aint s.1, aint s.2]) (asrc_slc (c := [aint s.1, aint s.2]) (by rw [new_get, if_pos rfl]) (by simp)) rfl (by omega) (by omega) ⟨by omega, by omega⟩ rfl (by rw [new_next]; omega) fun x' G' q6 q7 q8 => ?_
        rw [new_next] at q7
        have keep : ∀ b, b < H.next + 3 → G'.get b = H2.get b := fun b hb => by
          rw [q8 b (by rw [new_next]; omega) (fun off es' n' lo ex hx => by have := (hxo _ off es' n' lo ex hx).1; omega), new_get, if_neg (by omega)]
        have k0 : G'.get H.next = some (.cells [aint l.n, vx]) := (keep _ (by omega)).trans hg0'
        have k1 : G'.get (H.next + 1) = some (.cells [aint 0, nils]) := (keep _ (by omega)).trans hg1'
        have k2 : G'.get (H.next + 2) = some (.cells [aint n, xo]) := (keep _ (by omega)).trans hg2'
        have f1 : ¬ H.next = H.next + 2 := by omega
        have f2 : ¬ H.next + 1 = H.next + 2 := by omega
        have hEG : Ext H G' := ⟨by have := hE4.1; omega, fun b hb => (keep b (by omega)).trans (hE4.2 b hb)⟩
        have hx' : ∀ off es' n' lo ex, x' ≠ .slc (H.next + 2) off es' n' lo ex := by
          intro off es' n' lo ex hx
          rcases q6 with ⟨_, _, rfl⟩ | ⟨b0, g1, g2, rfl, g3⟩
          · cases hx
          · injection hx with hx; omega
        have hO3 : ∀ o', OutS (G'.set (H.next + 2) o') (H.next + 3) 2 (o ++ [s]).length (varsC (o ++ [s])) x' := fun o' => by
          rw [List.length_append, varsC_append]; exact q6.set hx' _
        have hN : tidyN l.n (o ++ [s]) = if s.2 ≥ l.n then 0 else tidyN l.n o := by
          simp only [tidyN, List.any_append, List.any_cons, List.any_nil, Bool.or_false, Bool.or_eq_true, decide_eq_true_eq]
          by_cases h6 : s.2 ≥ l.n
          · rw [if_pos (.inr h6), if_pos h6]
          · rw [if_neg h6]
            by_cases h7 : o.any (fun v => decide (v.2 ≥ l.n)) = true
            · rw [if_pos (.inl h7), if_pos h7]
            · rw [if_neg (fun h => by rcases h with h | h; exact h7 h; exact h6 h), if_neg h7]
        by_cases h6 : s.2 ≥ l.n
        · simp -implicitDefEqProofs only [go_sem, Nat.reduceEqDiff, Nat.reduceAdd, Nat.reduceLeDiff, ↓reduceIte, reduceCtorEq, Int.reduceBEq, Int.reduceBNe, Int.reduceLT, Int.reduceLE, Int.reduceGT, Int.reduceGE, Int.reduceNeg, Int.reduceAdd, Int.reduceSub, Nat.reduceMul, Nat.reduceLT, Int.reduceToNat, t1, t2, t3, t4, t5, t6, t7, k0, k1, k2, f1, f2, q6.one, q6.cells, h6]
          refine ⟨above l.vars s.1, hab, o ++ [s], s.1, 0, x', rfl, by simp; omega, by omega, by rw [htw, hw]; simp, by rw [hN, if_pos h6], rfl, (hEG.set (by omega) _).set (by omega) _, by omega, rfl, ?_⟩
          have := hO3 (.cells [aint 0, x'])
          exact (hO3 _).set hx' _
        · simp -implicitDefEqProofs only [go_sem, Nat.reduceEqDiff, Nat.reduceAdd, Nat.reduceLeDiff, ↓reduceIte, reduceCtorEq, Int.reduceBEq, Int.reduceBNe, Int.reduceLT, Int.reduceLE, Int.reduceGT, Int.reduceGE, Int.reduceNeg, Int.reduceAdd, Int.reduceSub, Nat.reduceMul, Nat.reduceLT, Int.reduceToNat, t1, t2, t3, t4, t5, t6, t7, k0, k1, k2, f1, f2, q6.one, q6.cells, h6]
          exact ⟨above l.vars s.1, hab, o ++ [s], s.1, n, x', rfl, by simp; omega, by omega, by rw [htw, hw]; simp, by rw [hN, if_neg h6, hn'], rfl, hEG.set (by omega) _, by omega, rfl, hO3 _⟩
  refine main.frz fun _ _ x H' ⟨hE, y, hx, hy⟩ _ => ⟨hE, ?_⟩
  subst hx
  obtain ⟨z, h3, h4⟩ := hy.frzOld (Nat.le_refl _) (varsC_old _ _)
  exact ⟨.agg [aint (tidyF l).n, z], .agg _ _ rfl (fun i x y hx hy => by
    match i, hx, hy with
    | 0, hx, hy => simp at hx hy; subst hx hy; exact .keep _ (.v _)
    | 1, hx, hy => simp at hx hy; subst hx hy; exact h3), z, rfl, SlV.of h4⟩
end Go.Proofs.Ytooaiddfokbffaa.E

/- The two canonical levels are one. Conditions: none. -/
set_option linter.unusedVariables false
set_option linter.unusedSimpArgs false
namespace Go.Proofs.Ytooaiddfokbffaa.E
open Go Go.Proofs
attribute [local go_sem] s_seq s_ops s_draw s_block s_skip s_ret s_exit i_nil i_cons i_run i_runG s_condQ c_true c_false aop ev_t ev_c updO_at updO_no upd_at t_normal t_ret t_exit b_normal b_ret b_exit a_some ac_v ac_agg ac_ptr ac_slc ac_ro ac_rop ac_fn new_next set_next argTm_zero argTm_succ argTm_nil ab_bool ab_uv beq_self_eq_true Option.some_beq_some Bool.not_not beq_iff_eq decide_true decide_false Bool.not_true Bool.not_false afld aload astore apack alen_str alen_ro alen_slc alen_nil new_get set_get ite_true ite_false Option.map_some Option.bind_some ibin isShift Nat.add_zero Nat.zero_add List.length_cons List.length_nil List.drop_zero List.drop_succ_cons List.take_succ_cons List.take_zero if_true if_false setL List.set_cons_zero List.set_cons_succ List.all_cons List.all_nil one_int one_bool one_str one_nil one_ptr one_slc one_ro one_rop one_fn Bool.and_self Bool.and_true true_and and_true and_self Bool.false_eq_true post_ret post_normal resAll resOne packR Option.some.injEq exists_eq_left' List.map_cons List.map_nil List.nil_append List.append_nil List.cons_append d_nil d_cons k_nil k_cons g_op g_same g_new avBlock forall_eq' List.getElem?_cons_succ List.getElem?_cons_zero List.getElem?_nil okind gOk bne false_imp_iff forall_const imp_self implies_true true_imp_iff i_callG

abbrev SortK (l : List (Int × Int)) : Prop := l.Pairwise fun x y => x.1 < y.1
/-- The most that is added to a variable. -/
def Best (l : List (Int × Int)) (x : Int × Int) : Prop := x ∈ l ∧ ∀ v ∈ l, v.1 = x.1 → v.2 ≤ x.2

theorem sort_ext : ∀ {a b : List (Int × Int)}, SortK a → SortK b → (∀ x, x ∈ a ↔ x ∈ b) → a = b
  | [], [], _, _, _ => rfl
  | [], y :: b, _, _, h => by have := (h y).2 (List.mem_cons_self ..); cases this
  | x :: a, [], _, _, h => by have := (h x).1 (List.mem_cons_self ..); cases this
  | x :: a, y :: b, ha, hb, h => by
    have ha' := List.pairwise_cons.1 ha
    have hb' := List.pairwise_cons.1 hb
    have hxy : x = y := by
      rcases List.mem_cons.1 ((h x).1 (List.mem_cons_self ..)) with e | e
      · exact e
      · rcases List.mem_cons.1 ((h y).2 (List.mem_cons_self ..)) with e' | e'
        · exact e'.symm
        · have := hb'.1 x e; have := ha'.1 y e'; omega
    subst hxy
    congr 1
    refine sort_ext ha'.2 hb'.2 fun z => ⟨fun hz => ?_, fun hz => ?_⟩
    · rcases List.mem_cons.1 ((h z).1 (List.mem_cons_of_mem _ hz)) with e | e
      · subst e; have := ha'.1 z hz; omega
      · exact e
    · rcases List.mem_cons.1 ((h z).2 (List.mem_cons_of_mem _ hz)) with e | e
      · subst e; have := hb'.1 z hz; omega
      · exact e

theorem best_sort {l : List (Int × Int)} (h : SortK l) {x : Int × Int} : Best l x ↔ x ∈ l := by
  refine ⟨fun h => h.1, fun hx => ⟨hx, fun v hv he => ?_⟩⟩
  induction l with
  | nil => cases hx
  | cons y r ih =>
    have h' := List.pairwise_cons.1 h
    rcases List.mem_cons.1 hx with e1 | hx <;> rcases List.mem_cons.1 hv with e2 | hv
    · rw [e1, e2]; exact Int.le_refl _
    · have := h'.1 v hv; rw [e1] at he; omega
    · have := h'.1 x hx; rw [e2] at he; omega
    · exact ih h'.2 hx hv

theorem best_cons_lt {l : List (Int × Int)} {u x : Int × Int} (h : ∀ v ∈ l, u.1 < v.1) : Best (u :: l) x ↔ x = u ∨ Best l x := by
  constructor
  · rintro ⟨h1, h2⟩
    rcases List.mem_cons.1 h1 with rfl | h1
    · exact .inl rfl
    · exact .inr ⟨h1, fun v hv he => h2 v (List.mem_cons_of_mem _ hv) he⟩
  · rintro (rfl | ⟨h1, h2⟩)
    · refine ⟨List.mem_cons_self .., fun v hv he => ?_⟩
      rcases List.mem_cons.1 hv with rfl | hv
      · exact Int.le_refl _
      · have := h v hv; omega
    · refine ⟨List.mem_cons_of_mem _ h1, fun v hv he => ?_⟩
      rcases List.mem_cons.1 hv with rfl | hv
      · have := h x h1; omega
      · exact h2 v hv he

theorem best_perm {l m : List (Int × Int)} (h : ∀ x, x ∈ l ↔ x ∈ m) {x : Int × Int} : Best l x ↔ Best m x :=
  ⟨fun ⟨h1, h2⟩ => ⟨(h x).1 h1, fun v hv => h2 v ((h v).2 hv)⟩, fun ⟨h1, h2⟩ => ⟨(h x).2 h1, fun v hv => h2 v ((h v).1 hv)⟩⟩

theorem joinF_spec {a b : List (Int × Int)} (ha : SortK a) (hb : SortK b) : SortK (joinF a b) ∧ ∀ x, x ∈ joinF a b ↔ Best (a ++ b) x := by
  induction a, b using joinF.induct with
  | case1 b => rw [joinF]; exact ⟨hb, fun x => (best_sort hb).symm⟩
  | case2 u a => rw [joinF, List.append_nil]; exact ⟨ha, fun x => (best_sort ha).symm⟩
  | case3 u a v b h ih =>
    have ha' := List.pairwise_cons.1 ha
    have hb' := List.pairwise_cons.1 hb
    obtain ⟨i1, i2⟩ := ih ha'.2 hb
    rw [joinF, if_pos h]
    have hlt : ∀ w ∈ a ++ v :: b, u.1 < w.1 := fun w hw => by
      rcases List.mem_append.1 hw with hw | hw
      · exact ha'.1 w hw
      · rcases List.mem_cons.1 hw with rfl | hw
        · exact h
        · have := hb'.1 w hw; omega
    refine ⟨List.pairwise_cons.2 ⟨fun w hw => hlt w ((i2 w).1 hw).1, i1⟩, fun x => ?_⟩
    rw [List.cons_append, best_cons_lt hlt, List.mem_cons, i2]
  | case4 u a v b h1 h2 ih =>
    have ha' := List.pairwise_cons.1 ha
    have hb' := List.pairwise_cons.1 hb
    obtain ⟨i1, i2⟩ := ih ha hb'.2
    rw [joinF, if_neg h1, if_pos h2]
    have hlt : ∀ w ∈ (u :: a) ++ b, v.1 < w.1 := fun w hw => by
      rcases List.mem_append.1 hw with hw | hw
      · rcases List.mem_cons.1 hw with rfl | hw
        · exact h2
        · have := ha'.1 w hw; omega
      · exact hb'.1 w hw
    refine ⟨List.pairwise_cons.2 ⟨fun w hw => hlt w ((i2 w).1 hw).1, i1⟩, fun x => ?_⟩
    rw [List.mem_cons, i2, ← best_cons_lt hlt]
    refine best_perm fun z => ?_
    simp only [List.mem_cons, List.mem_append]
    constructor
    · rintro (h | (h | h) | h) <;> simp [h]
    · rintro ((h | h) | (h | h)) <;> simp [h]
  | case5 u a v b h1 h2 ih =>
    have ha' := List.pairwise_cons.1 ha
    have hb' := List.pairwise_cons.1 hb
    obtain ⟨i1, i2⟩ := ih ha'.2 hb'.2
    rw [joinF, if_neg h1, if_neg h2]
    have hk : u.1 = v.1 := by omega
    have hg : (greaterF u v).1 = u.1 := by unfold greaterF; split <;> omega
    have hg2 : u.2 ≤ (greaterF u v).2 ∧ v.2 ≤ (greaterF u v).2 := by unfold greaterF; split <;> omega
    have hgm : greaterF u v = u ∨ greaterF u v = v := by unfold greaterF; split <;> simp
    have hlt : ∀ w ∈ a ++ b, u.1 < w.1 := fun w hw => by
      rcases List.mem_append.1 hw with hw | hw
      · exact ha'.1 w hw
      · have := hb'.1 w hw; omega
    refine ⟨List.pairwise_cons.2 ⟨fun w hw => by rw [hg]; exact hlt w ((i2 w).1 hw).1, i1⟩, fun x => ?_⟩
    rw [List.mem_cons, i2]
    constructor
    · rintro (rfl | ⟨k1, k2⟩)
      · refine ⟨?_, fun w hw he => ?_⟩
        · rcases hgm with e | e <;> rw [e] <;> simp
        · simp only [List.cons_append, List.mem_cons, List.mem_append] at hw
          rcases hw with rfl | hw | rfl | hw
          · exact hg2.1
          · have := ha'.1 w hw; omega
          · exact hg2.2
          · have := hb'.1 w hw; omega
      · have hx := hlt x k1
        refine ⟨?_, fun w hw he => ?_⟩
        · rcases List.mem_append.1 k1 with k1 | k1 <;> simp [k1]
        · simp only [List.cons_append, List.mem_cons, List.mem_append] at hw
          rcases hw with rfl | hw | rfl | hw
          · omega
          · exact k2 w (List.mem_append_left _ hw) he
          · omega
          · exact k2 w (List.mem_append_right _ hw) he
    · rintro ⟨k1, k2⟩
      have hu := k2 u (by simp)
      have hv := k2 v (by simp)
      simp only [List.cons_append, List.mem_cons, List.mem_append] at k1
      have same : x.1 = u.1 → (x = u ∨ x = v) → x = greaterF u v := fun he hx => by
        have q1 := hu he.symm
        have q2 := hv (by omega)
        unfold greaterF
        rcases hx with rfl | rfl
        · rw [if_neg (by omega)]
        · split
          · rfl
          · exact Prod.ext (by omega) (by omega)
      rcases k1 with rfl | k1 | rfl | k1
      · exact .inl (same rfl (.inl rfl))
      · exact .inr ⟨List.mem_append_left _ k1, fun w hw he => k2 w (by rcases List.mem_append.1 hw with hw | hw <;> simp [hw]) he⟩
      · exact .inl (same hk.symm (.inr rfl))
      · exact .inr ⟨List.mem_append_right _ k1, fun w hw he => k2 w (by rcases List.mem_append.1 hw with hw | hw <;> simp [hw]) he⟩

theorem best_best {p : List (Int × Int)} {acc : List (Int × Int)} (h : ∀ x, x ∈ acc ↔ Best p x) (q : List (Int × Int)) {x : Int × Int} : Best (acc ++ q) x ↔ Best (p ++ q) x := by
  -- a greatest one of its variable
  have top : ∀ (l : List (Int × Int)) (v : Int × Int), v ∈ l → ∃ w, Best l w ∧ w.1 = v.1 ∧ v.2 ≤ w.2 := by
    intro l
    induction l with
    | nil => intro v hv; cases hv
    | cons y r ih =>
      intro v hv
      by_cases hr : ∃ w ∈ r, w.1 = v.1
      · obtain ⟨w0, hw0, he0⟩ := hr
        obtain ⟨w, hw, he, _⟩ := ih w0 hw0
        have hwv : w.1 = v.1 := by omega
        by_cases hy : y.1 = v.1 ∧ w.2 < y.2
        · refine ⟨y, ⟨List.mem_cons_self .., fun z hz hez => ?_⟩, hy.1, ?_⟩
          · rcases List.mem_cons.1 hz with rfl | hz
            · exact Int.le_refl _
            · have := hw.2 z hz (by omega); omega
          · rcases List.mem_cons.1 hv with rfl | hv
            · exact Int.le_refl _
            · have := hw.2 v hv hwv.symm; omega
        · refine ⟨w, ⟨List.mem_cons_of_mem _ hw.1, fun z hz hez => ?_⟩, hwv, ?_⟩
          · rcases List.mem_cons.1 hz with rfl | hz
            · rcases Int.lt_or_le w.2 z.2 with h | h
              · exact absurd ⟨by omega, h⟩ hy
              · exact h
            · exact hw.2 z hz hez
          · rcases List.mem_cons.1 hv with rfl | hv
            · rcases Int.lt_or_le w.2 v.2 with h | h
              · exact absurd ⟨rfl, h⟩ hy
              · exact h
            · exact hw.2 v hv hwv.symm
      · have hyv : y = v := by
          rcases List.mem_cons.1 hv with e | hv
          · exact e.symm
          · exact absurd ⟨v, hv, rfl⟩ hr
        subst hyv
        refine ⟨y, ⟨List.mem_cons_self .., fun z hz hez => ?_⟩, rfl, Int.le_refl _⟩
        rcases List.mem_cons.1 hz with rfl | hz
        · exact Int.le_refl _
        · exact absurd ⟨z, hz, hez⟩ hr
  constructor
  · rintro ⟨h1, h2⟩
    refine ⟨?_, fun v hv he => ?_⟩
    · rcases List.mem_append.1 h1 with h1 | h1
      · exact List.mem_append_left _ ((h x).1 h1).1
      · exact List.mem_append_right _ h1
    · rcases List.mem_append.1 hv with hv | hv
      · obtain ⟨w, hw, hwe, hle⟩ := top p v hv
        have := h2 w (List.mem_append_left _ ((h w).2 hw)) (by omega)
        omega
      · exact h2 v (List.mem_append_right _ hv) he
  · rintro ⟨h1, h2⟩
    refine ⟨?_, fun v hv he => ?_⟩
    · rcases List.mem_append.1 h1 with h1 | h1
      · exact List.mem_append_left _ ((h x).2 ⟨h1, fun v hv he => h2 v (List.mem_append_left _ hv) he⟩)
      · exact List.mem_append_right _ h1
    · rcases List.mem_append.1 hv with hv | hv
      · exact h2 v (List.mem_append_left _ ((h v).1 hv).1) he
      · exact h2 v (List.mem_append_right _ hv) he

theorem normV_spec (vars : List (Int × Int)) : SortK (normV vars) ∧ ∀ x, x ∈ normV vars ↔ Best vars x := by
  have key : ∀ (r p acc : List (Int × Int)), SortK acc → (∀ x, x ∈ acc ↔ Best p x) →
      SortK (r.foldl (fun acc v => joinF acc [v]) acc) ∧ ∀ x, x ∈ r.foldl (fun acc v => joinF acc [v]) acc ↔ Best (p ++ r) x := by
    intro r
    induction r with
    | nil => intro p acc h1 h2; rw [List.append_nil]; exact ⟨h1, h2⟩
    | cons v r ih =>
      intro p acc h1 h2
      obtain ⟨h3, h4⟩ := joinF_spec h1 (List.pairwise_singleton _ v)
      have := ih (p ++ [v]) (joinF acc [v]) h3 fun x => (h4 x).trans (best_best h2 [v])
      simpa using this
  exact key vars [] [] List.Pairwise.nil fun x => by simp [Best]

theorem tidyW_spec (vars : List (Int × Int)) : ∀ (k : Nat) (last : Int), above vars last = k → -1 ≤ last → SortK (tidyW vars last) ∧ (∀ x ∈ tidyW vars last, last < x.1) ∧ ∀ x, x ∈ tidyW vars last ↔ Best vars x ∧ last < x.1 := by
  intro k
  induction k using Nat.strongRecOn with
  | _ k ih =>
  intro last hk hl
  rcases nextF_spec hl vars with ⟨h1, h2⟩ | ⟨h1, h2, h3⟩
  · rw [tidyW_nil hl (by rw [h1]; decide)]
    refine ⟨List.Pairwise.nil, (fun x hx => by cases hx), fun x => ⟨(fun hx => by cases hx), fun ⟨hx, hlx⟩ => ?_⟩⟩
    have := h2 x hx.1
    omega
  · have hlt := above_lt h2 h1
    obtain ⟨i1, i2, i3⟩ := ih _ (by omega) (nextF last vars).1 rfl (by omega)
    rw [tidyW_cons hl (by omega)]
    refine ⟨List.pairwise_cons.2 ⟨fun x hx => i2 x hx, i1⟩, fun x hx => ?_, fun x => ?_⟩
    · rcases List.mem_cons.1 hx with rfl | hx
      · exact h1
      · have := i2 x hx; omega
    · rw [List.mem_cons, i3]
      constructor
      · rintro (rfl | ⟨q1, q2⟩)
        · exact ⟨⟨h2, fun v hv he => by rcases h3 v hv (by omega) with h | h <;> omega⟩, h1⟩
        · exact ⟨q1, by omega⟩
      · rintro ⟨q1, q2⟩
        rcases h3 x q1.1 q2 with h | ⟨h4, h5⟩
        · exact .inr ⟨q1, h⟩
        · have := q1.2 _ h2 (by omega)
          exact .inl (Prod.ext h4 (by omega))

theorem tidy_norm {vars : List (Int × Int)} (h : ∀ v ∈ vars, 0 ≤ v.1) : tidyW vars (-1) = normV vars := by
  obtain ⟨h1, h2⟩ := normV_spec vars
  obtain ⟨h3, _, h4⟩ := tidyW_spec vars _ (-1) rfl (by omega)
  refine sort_ext h3 h1 fun x => ?_
  rw [h4, h2]
  refine ⟨fun h => h.1, fun hx => ⟨hx, ?_⟩⟩
  have := h x hx.1
  omega

theorem normN_eq (n : Int) (l : List (Int × Int)) (hl : ∀ v ∈ l, 0 ≤ v.2) : normN n l = tidyN n l := by
  unfold normN tidyN
  have zero : ∀ (l : List (Int × Int)), l.foldl (fun n v => if v.2 ≥ n then 0 else n) (0 : Int) = 0 := by
    intro l
    induction l with
    | nil => rfl
    | cons v r ih => rw [List.foldl_cons]; split <;> exact ih
  induction l with
  | nil => simp
  | cons v r ih =>
    rw [List.foldl_cons, List.any_cons]
    by_cases h : v.2 ≥ n
    · rw [if_pos h, zero, decide_eq_true h]; simp
    · rw [if_neg h, decide_eq_false h, Bool.false_or]
      exact ih fun v hv => hl v (List.mem_cons_of_mem _ hv)

/-- Numbers of variables, and what is added, from zero on. -/
def Pos (vars : List (Int × Int)) : Prop := ∀ v ∈ vars, 0 ≤ v.1 ∧ 0 ≤ v.2

theorem tidyF_eq {l : Lv} (h : Pos l.vars) : tidyF l = normF l := by
  unfold tidyF normF
  have h1 := tidy_norm fun v hv => (h v hv).1
  rw [h1, normN_eq]
  intro v hv
  exact (h v (((normV_spec l.vars).2 v).1 hv).1).2

theorem right_pos {l : Lv} (h : rightF l = true) : Pos l.vars := by
  simp only [rightF, fineF, Bool.and_eq_true, decide_eq_true_eq, List.all_eq_true] at h
  intro v hv
  have := h.2 v hv
  omega

theorem Norm2_eq {l : Lv} : (if rightF l = true then (tidyF l, (0 : Int)) else (lv0, 13)) = NormF l := by
  unfold NormF
  split
  · rename_i h; rw [tidyF_eq (right_pos h)]
  · rfl

set_option maxRecDepth 100000 in
theorem Norm2_ok (l : Lv) (vx : AV) (vs : List AV) (h1 : SlR l.vars.length vx vs) (h2 : VarsR l.vars vs) (hn : l.vars.length ≤ 4611686018427387904) (H : AHeap) :
    SCall Try.prog 174 [.agg [aint l.n, vx]] H fun x H' => LvE (NormF l).1 (NormF l).2 x ∧ H' = H := by
  have main : SCall Try.prog 174 [.agg [aint l.n, vx]] H fun x H' => LvE (NormF l).1 (NormF l).2 x ∧ Ext H H' := by
    refine SCall.intro mixed cf174 ?_
    have e1 : ¬ H.next + 1 = H.next := by omega
    have e2 : ¬ H.next = H.next + 1 := by omega
    simp -implicitDefEqProofs only [c174, go_sem, Nat.reduceEqDiff, Nat.reduceAdd, Nat.reduceLeDiff, ↓reduceIte, reduceCtorEq, Int.reduceBEq, Int.reduceBNe, Int.reduceLT, Int.reduceLE, Int.reduceGT, Int.reduceGE, Int.reduceNeg, Int.reduceAdd, Int.reduceSub, Nat.reduceMul, Nat.reduceLT, Int.reduceToNat, h1.one, h1.cells, e1, e2]
    refine i_callA (fs := []) (cs := []) ?_ ?_ (right2_ok l vx vs h1 h2 hn _) ?_
    · rfl
    · simp -implicitDefEqProofs only [go_sem, Nat.reduceEqDiff, Nat.reduceAdd, Nat.reduceLeDiff, ↓reduceIte, reduceCtorEq, Int.reduceBEq, Int.reduceBNe, Int.reduceLT, Int.reduceLE, Int.reduceGT, Int.reduceGE, Int.reduceNeg, Int.reduceAdd, Int.reduceSub, Nat.reduceMul, Nat.reduceLT, Int.reduceToNat]
    rintro x H3 ⟨rfl, rfl⟩
    rw [← Norm2_eq]
    cases hr : rightF l with
    | false =>
      simp -implicitDefEqProofs only [go_sem, Nat.reduceEqDiff, Nat.reduceAdd, Nat.reduceLeDiff, ↓reduceIte, reduceCtorEq, Int.reduceBEq, Int.reduceBNe, Int.reduceLT, Int.reduceLE, Int.reduceGT, Int.reduceGE, Int.reduceNeg, Int.reduceAdd, Int.reduceSub, Nat.reduceMul, Nat.reduceLT, Int.reduceToNat, afill, e1, e2]
      exact ⟨⟨nils, by simp [hr, lv0], by simp [hr, lv0]; exact slv_nil⟩, ((((Ext.refl H).new _).new _).set (by omega) _)⟩
    | true =>
      simp -implicitDefEqProofs only [go_sem, Nat.reduceEqDiff, Nat.reduceAdd, Nat.reduceLeDiff, ↓reduceIte, reduceCtorEq, Int.reduceBEq, Int.reduceBNe, Int.reduceLT, Int.reduceLE, Int.reduceGT, Int.reduceGE, Int.reduceNeg, Int.reduceAdd, Int.reduceSub, Nat.reduceMul, Nat.reduceLT, Int.reduceToNat, e1, e2]
      have hl : l.vars.length ≤ 64 := by
        simp only [rightF, Bool.and_eq_true, decide_eq_true_eq] at hr
        exact hr.1.2
      refine i_callA (fs := []) (cs := []) ?_ ?_ (tidy_ok l vx vs h1 h2 (by omega) _) ?_
      · rfl
      · simp -implicitDefEqProofs only [go_sem, Nat.reduceEqDiff, Nat.reduceAdd, Nat.reduceLeDiff, ↓reduceIte, reduceCtorEq, Int.reduceBEq, Int.reduceBNe, Int.reduceLT, Int.reduceLE, Int.reduceGT, Int.reduceGE, Int.reduceNeg, Int.reduceAdd, Int.reduceSub, Nat.reduceMul, Nat.reduceLT, Int.reduceToNat]
      rintro x H3 ⟨⟨y, rfl, hy⟩, rfl⟩
      obtain ⟨⟨c3, q1, q2⟩, q3⟩ := id hy
      simp -implicitDefEqProofs only [go_sem, Nat.reduceEqDiff, Nat.reduceAdd, Nat.reduceLeDiff, ↓reduceIte, reduceCtorEq, Int.reduceBEq, Int.reduceBNe, Int.reduceLT, Int.reduceLE, Int.reduceGT, Int.reduceGE, Int.reduceNeg, Int.reduceAdd, Int.reduceSub, Nat.reduceMul, Nat.reduceLT, Int.reduceToNat, e1, e2, q1.one, q1.cells]
      exact ⟨⟨y, by first | rfl | simp [hr], by first | exact hy | (simp [hr]; exact hy)⟩, ((((Ext.refl H).new _).new _).set (by omega) _)⟩
  exact main.frz fun _ _ x H' ⟨hx, hE⟩ _ => ⟨hE, x, .keep _ (hx.old _), hx⟩

set_option maxRecDepth 100000 in
theorem can2_ok (l : Lv) (hn : l.vars.length ≤ 4611686018427387904) : CanSpec2 canF l := by
  intro vx vs H h1 h2
  refine SCall.val (SCall.intro mixed cf132 ?_)
  have e1 : ¬ H.next + 1 = H.next := by omega
  have e2 : ¬ H.next = H.next + 1 := by omega
  simp -implicitDefEqProofs only [c132, go_sem, Nat.reduceEqDiff, Nat.reduceAdd, Nat.reduceLeDiff, ↓reduceIte, reduceCtorEq, Int.reduceBEq, Int.reduceBNe, Int.reduceLT, Int.reduceLE, Int.reduceGT, Int.reduceGE, Int.reduceNeg, Int.reduceAdd, Int.reduceSub, Nat.reduceMul, Nat.reduceLT, Int.reduceToNat, h1.one, h1.cells, e1, e2]
  refine i_callA (fs := []) (cs := []) ?_ ?_ (Norm2_ok l vx vs h1 h2 hn _) ?_
  · rfl
  · simp -implicitDefEqProofs only [go_sem, Nat.reduceEqDiff, Nat.reduceAdd, Nat.reduceLeDiff, ↓reduceIte, reduceCtorEq, Int.reduceBEq, Int.reduceBNe, Int.reduceLT, Int.reduceLE, Int.reduceGT, Int.reduceGE, Int.reduceNeg, Int.reduceAdd, Int.reduceSub, Nat.reduceMul, Nat.reduceLT, Int.reduceToNat]
  rintro x H3 ⟨⟨y, rfl, hy⟩, rfl⟩
  obtain ⟨⟨c3, q1, q2⟩, q3⟩ := id hy
  have hE : ∀ o1 o2 o3, Ext H (((H.new o1).new o2).set (H.next + 1) o3) := fun o1 o2 o3 => (((Ext.refl H).new _).new _).set (by omega) _
  cases hr : rightF l with
  | false =>
    have hN : (NormF l).2 = 13 := by simp [NormF, hr]
    simp -implicitDefEqProofs only [go_sem, Nat.reduceEqDiff, Nat.reduceAdd, Nat.reduceLeDiff, ↓reduceIte, reduceCtorEq, Int.reduceBEq, Int.reduceBNe, Int.reduceLT, Int.reduceLE, Int.reduceGT, Int.reduceGE, Int.reduceNeg, Int.reduceAdd, Int.reduceSub, Nat.reduceMul, Nat.reduceLT, Int.reduceToNat, e1, e2, q1.one, q1.cells, hN]
    exact ⟨by simp [canF, hr], hE _ _ _⟩
  | true =>
  have hN : NormF l = (normF l, 0) := by simp [NormF, hr]
  rw [hN] at q1 q2 ⊢
  cases hnn : ((normF l).n == l.n) with
  | false =>
    simp -implicitDefEqProofs only [go_sem, Nat.reduceEqDiff, Nat.reduceAdd, Nat.reduceLeDiff, ↓reduceIte, reduceCtorEq, Int.reduceBEq, Int.reduceBNe, Int.reduceLT, Int.reduceLE, Int.reduceGT, Int.reduceGE, Int.reduceNeg, Int.reduceAdd, Int.reduceSub, Nat.reduceMul, Nat.reduceLT, Int.reduceToNat, e1, e2, q1.one, q1.cells, hnn]
    exact ⟨by simp [canF, hnn], hE _ _ _⟩
  | true =>
    have hcan : canF l = decide ((normF l).vars = l.vars) := by simp [canF, hr, hnn]
    by_cases hll : (normF l).vars.length = l.vars.length
    case neg =>
      have hlb : (((normF l).vars.length : Int) == (l.vars.length : Int)) = false := by rw [beq_eq_false_iff_ne]; omega
      simp -implicitDefEqProofs only [go_sem, Nat.reduceEqDiff, Nat.reduceAdd, Nat.reduceLeDiff, ↓reduceIte, reduceCtorEq, Int.reduceBEq, Int.reduceBNe, Int.reduceLT, Int.reduceLE, Int.reduceGT, Int.reduceGE, Int.reduceNeg, Int.reduceAdd, Int.reduceSub, Nat.reduceMul, Nat.reduceLT, Int.reduceToNat, e1, e2, q1.one, q1.cells, hnn, fun H => h1.alen H, fun H => q1.alen H, hlb]
      exact ⟨by rw [hcan, decide_eq_false]; intro h; rw [h] at hll; exact hll rfl, hE _ _ _⟩
    have hlb : (((normF l).vars.length : Int) == (l.vars.length : Int)) = true := by rw [beq_iff_eq]; omega
    simp -implicitDefEqProofs only [go_sem, Nat.reduceEqDiff, Nat.reduceAdd, Nat.reduceLeDiff, ↓reduceIte, reduceCtorEq, Int.reduceBEq, Int.reduceBNe, Int.reduceLT, Int.reduceLE, Int.reduceGT, Int.reduceGE, Int.reduceNeg, Int.reduceAdd, Int.reduceSub, Nat.reduceMul, Nat.reduceLT, Int.reduceToNat, e1, e2, q1.one, q1.cells, hnn, fun H => h1.alen H, fun H => q1.alen H, hlb]
    refine swp_range (normF l).vars.length (fun i st => st.tm 1 = .ptr H.next 0 ∧ st.tm 3 = .ptr (H.next + 1) 0 ∧ st.tm 5 = aint i ∧ Ext H st.heap ∧ st.heap.get H.next = some (.cells [aint l.n, vx]) ∧ st.heap.get (H.next + 1) = some (.cells [aint (normF l).n, y]) ∧
      ((normF l).vars = l.vars ↔ (normF l).vars.drop i = l.vars.drop i)) ?_ ?_ ?_
    · refine ⟨rfl, rfl, rfl, hE _ _ _, ?_, ?_, by simp⟩
      all_goals simp -implicitDefEqProofs only [go_sem, Nat.reduceEqDiff, Nat.reduceAdd, Nat.reduceLeDiff, ↓reduceIte, reduceCtorEq, Int.reduceBEq, Int.reduceBNe, Int.reduceLT, Int.reduceLE, Int.reduceGT, Int.reduceGE, Int.reduceNeg, Int.reduceAdd, Int.reduceSub, Nat.reduceMul, Nat.reduceLT, Int.reduceToNat, e1, e2]
    · rintro i ⟨tm, H2⟩ hi ⟨t1, t3, t5, hE2, hg0, hg1, hd⟩
      simp only at t1 t3 t5 hE2 hg0 hg1
      have hltI : (i : Int) < ((normF l).vars.length : Int) := by omega
      have hix := q1.aix 2 hi
      have hix' := h1.aix 2 (i := i) (by omega)
      obtain ⟨hle, hld⟩ := q2.at hi
      obtain ⟨hle', hld'⟩ := h2.at (i := i) (by omega)
      have w3 : IntKind.i64.wrap ((i : Int) + 1) = (i : Int) + 1 := i64_ok _ (by omega)
      have hdrop : l.vars.drop i = l.vars[i] :: l.vars.drop (i + 1) := List.drop_eq_getElem_cons (by omega)
      have hdrop' : (normF l).vars.drop i = (normF l).vars[i] :: (normF l).vars.drop (i + 1) := List.drop_eq_getElem_cons hi
      rw [hdrop, hdrop'] at hd
      by_cases he : (normF l).vars[i] = l.vars[i]
      · have k1 : ((normF l).vars[i].1 == l.vars[i].1) = true := by rw [he]; simp
        have k2 : ((normF l).vars[i].2 == l.vars[i].2) = true := by rw [he]; simp
        simp -implicitDefEqProofs only [go_sem, Nat.reduceEqDiff, Nat.reduceAdd, Nat.reduceLeDiff, ↓reduceIte, reduceCtorEq, Int.reduceBEq, Int.reduceBNe, Int.reduceLT, Int.reduceLE, Int.reduceGT, Int.reduceGE, Int.reduceNeg, Int.reduceAdd, Int.reduceSub, Nat.reduceMul, Nat.reduceLT, Int.reduceToNat, t1, t3, t5, hg0, hg1, fun H => q1.alen H, hltI, hix, hix', hle, hld, hle', hld', aeqs, k1, k2, w3]
        exact ⟨by simp, hE2, by rw [hd, he, List.cons.injEq]; simp⟩
      · have k1 : ((normF l).vars[i].1 == l.vars[i].1 && (normF l).vars[i].2 == l.vars[i].2) = false := by
          rw [Bool.eq_false_iff]
          intro hh
          simp only [Bool.and_eq_true, beq_iff_eq] at hh
          exact he (Prod.ext hh.1 hh.2)
        simp -implicitDefEqProofs only [go_sem, Nat.reduceEqDiff, Nat.reduceAdd, Nat.reduceLeDiff, ↓reduceIte, reduceCtorEq, Int.reduceBEq, Int.reduceBNe, Int.reduceLT, Int.reduceLE, Int.reduceGT, Int.reduceGE, Int.reduceNeg, Int.reduceAdd, Int.reduceSub, Nat.reduceMul, Nat.reduceLT, Int.reduceToNat, t1, t3, t5, hg0, hg1, fun H => q1.alen H, hltI, hix, hix', hle, hld, hle', hld', aeqs, k1, w3]
        exact ⟨by rw [hcan, decide_eq_false]; intro h; exact he (List.cons.inj (hd.1 h)).1, hE2⟩
    · rintro ⟨tm, H2⟩ ⟨t1, t3, t5, hE2, hg0, hg1, hd⟩
      simp only at t1 t3 t5 hE2 hg0 hg1
      simp -implicitDefEqProofs only [go_sem, Nat.reduceEqDiff, Nat.reduceAdd, Nat.reduceLeDiff, ↓reduceIte, reduceCtorEq, Int.reduceBEq, Int.reduceBNe, Int.reduceLT, Int.reduceLE, Int.reduceGT, Int.reduceGE, Int.reduceNeg, Int.reduceAdd, Int.reduceSub, Nat.reduceMul, Nat.reduceLT, Int.reduceToNat, t1, t3, t5, hg0, hg1, fun H => q1.alen H, Int.lt_irrefl]
      exact ⟨by rw [hcan, decide_eq_true]; rw [hd, List.drop_length, hll, List.drop_length], hE2⟩
end Go.Proofs.Ytooaiddfokbffaa.E

/- Whether a term is too much, and whether forms bind. Conditions: none. -/
set_option linter.unusedVariables false
set_option linter.unusedSimpArgs false
namespace Go.Proofs.Ytooaiddfokbffaa.E
open Go Go.Proofs
attribute [local go_sem] s_seq s_ops s_draw s_block s_skip s_ret s_exit i_nil i_cons i_run i_runG s_condQ c_true c_false aop ev_t ev_c updO_at updO_no upd_at t_normal t_ret t_exit b_normal b_ret b_exit a_some ac_v ac_agg ac_ptr ac_slc ac_ro ac_rop ac_fn new_next set_next argTm_zero argTm_succ argTm_nil ab_bool ab_uv beq_self_eq_true Option.some_beq_some Bool.not_not beq_iff_eq decide_true decide_false Bool.not_true Bool.not_false afld aload astore apack alen_str alen_ro alen_slc alen_nil new_get set_get ite_true ite_false Option.map_some Option.bind_some ibin isShift Nat.add_zero Nat.zero_add List.length_cons List.length_nil List.drop_zero List.drop_succ_cons List.take_succ_cons List.take_zero if_true if_false setL List.set_cons_zero List.set_cons_succ List.all_cons List.all_nil one_int one_bool one_str one_nil one_ptr one_slc one_ro one_rop one_fn Bool.and_self Bool.and_true true_and and_true and_self Bool.false_eq_true post_ret post_normal resAll resOne packR Option.some.injEq exists_eq_left' List.map_cons List.map_nil List.nil_append List.append_nil List.cons_append d_nil d_cons k_nil k_cons g_op g_same g_new avBlock forall_eq' List.getElem?_cons_succ List.getElem?_cons_zero List.getElem?_nil okind gOk bne false_imp_iff forall_const imp_self implies_true true_imp_iff i_callG

def bindsF (f : Int) : Bool := f == 3 || f == 4 || f == 6
def underF (f i deep : Int) : Int := if i = 1 ∧ bindsF f = true then deep + 1 else deep

theorem bne' {a b : Int} (h : ¬ a = b) : (a == b) = false := by simpa using h

set_option maxRecDepth 100000 in
theorem binds_ok (f : Int) (H : AHeap) : SCall Try.prog 198 [aint f] H fun x H' => x = abl (bindsF f) ∧ H' = H := by
  refine SCall.intro mixed cf198 ?_
  by_cases e1 : f = 3
  · subst e1; simp -implicitDefEqProofs only [c198, go_sem, Nat.reduceEqDiff, Nat.reduceAdd, Nat.reduceLeDiff, ↓reduceIte, reduceCtorEq, Int.reduceBEq, Int.reduceBNe, Int.reduceLT, Int.reduceLE, Int.reduceGT, Int.reduceGE, Int.reduceNeg, Int.reduceAdd, Int.reduceSub, Nat.reduceMul, Nat.reduceLT, Int.reduceToNat]; rfl
  by_cases e2 : f = 4
  · subst e2; simp -implicitDefEqProofs only [c198, go_sem, Nat.reduceEqDiff, Nat.reduceAdd, Nat.reduceLeDiff, ↓reduceIte, reduceCtorEq, Int.reduceBEq, Int.reduceBNe, Int.reduceLT, Int.reduceLE, Int.reduceGT, Int.reduceGE, Int.reduceNeg, Int.reduceAdd, Int.reduceSub, Nat.reduceMul, Nat.reduceLT, Int.reduceToNat]; rfl
  by_cases e3 : f = 6
  · subst e3; simp -implicitDefEqProofs only [c198, go_sem, Nat.reduceEqDiff, Nat.reduceAdd, Nat.reduceLeDiff, ↓reduceIte, reduceCtorEq, Int.reduceBEq, Int.reduceBNe, Int.reduceLT, Int.reduceLE, Int.reduceGT, Int.reduceGE, Int.reduceNeg, Int.reduceAdd, Int.reduceSub, Nat.reduceMul, Nat.reduceLT, Int.reduceToNat]; rfl
  simp -implicitDefEqProofs only [c198, go_sem, Nat.reduceEqDiff, Nat.reduceAdd, Nat.reduceLeDiff, ↓reduceIte, reduceCtorEq, Int.reduceBEq, Int.reduceBNe, Int.reduceLT, Int.reduceLE, Int.reduceGT, Int.reduceGE, Int.reduceNeg, Int.reduceAdd, Int.reduceSub, Nat.reduceMul, Nat.reduceLT, Int.reduceToNat, bne' e1, bne' e2, bne' e3]
  simp [bindsF, e1, e2, e3]

set_option maxRecDepth 100000 in
theorem under_ok (f i deep : Int) (hd : 0 ≤ deep ∧ deep ≤ 4611686018427387904) (H : AHeap) : SCall Try.prog 172 [aint f, aint i, aint deep] H fun x H' => x = aint (underF f i deep) ∧ H' = H := by
  refine SCall.intro mixed cf172 ?_
  have w : IntKind.i64.wrap (deep + 1) = deep + 1 := i64_ok _ (by omega)
  by_cases e1 : i = 1
  · subst e1
    simp -implicitDefEqProofs only [c172, go_sem, Nat.reduceEqDiff, Nat.reduceAdd, Nat.reduceLeDiff, ↓reduceIte, reduceCtorEq, Int.reduceBEq, Int.reduceBNe, Int.reduceLT, Int.reduceLE, Int.reduceGT, Int.reduceGE, Int.reduceNeg, Int.reduceAdd, Int.reduceSub, Nat.reduceMul, Nat.reduceLT, Int.reduceToNat]
    refine i_callA (fs := []) (cs := []) ?_ ?_ (binds_ok f _) ?_
    · rfl
    · simp -implicitDefEqProofs only [go_sem, Nat.reduceEqDiff, Nat.reduceAdd, Nat.reduceLeDiff, ↓reduceIte, reduceCtorEq, Int.reduceBEq, Int.reduceBNe, Int.reduceLT, Int.reduceLE, Int.reduceGT, Int.reduceGE, Int.reduceNeg, Int.reduceAdd, Int.reduceSub, Nat.reduceMul, Nat.reduceLT, Int.reduceToNat]
    rintro x H3 ⟨rfl, rfl⟩
    cases hb : bindsF f with
    | true => simp -implicitDefEqProofs only [go_sem, Nat.reduceEqDiff, Nat.reduceAdd, Nat.reduceLeDiff, ↓reduceIte, reduceCtorEq, Int.reduceBEq, Int.reduceBNe, Int.reduceLT, Int.reduceLE, Int.reduceGT, Int.reduceGE, Int.reduceNeg, Int.reduceAdd, Int.reduceSub, Nat.reduceMul, Nat.reduceLT, Int.reduceToNat, w]; simp [underF, hb]
    | false => simp -implicitDefEqProofs only [go_sem, Nat.reduceEqDiff, Nat.reduceAdd, Nat.reduceLeDiff, ↓reduceIte, reduceCtorEq, Int.reduceBEq, Int.reduceBNe, Int.reduceLT, Int.reduceLE, Int.reduceGT, Int.reduceGE, Int.reduceNeg, Int.reduceAdd, Int.reduceSub, Nat.reduceMul, Nat.reduceLT, Int.reduceToNat]; simp [underF, hb]
  · simp -implicitDefEqProofs only [c172, go_sem, Nat.reduceEqDiff, Nat.reduceAdd, Nat.reduceLeDiff, ↓reduceIte, reduceCtorEq, Int.reduceBEq, Int.reduceBNe, Int.reduceLT, Int.reduceLE, Int.reduceGT, Int.reduceGE, Int.reduceNeg, Int.reduceAdd, Int.reduceSub, Nat.reduceMul, Nat.reduceLT, Int.reduceToNat, bne' e1]
    simp [underF, e1]

/-! ### How much a term is -/
def cntL (n : Int) : List Lv → Int
  | [] => n
  | l :: r => if n ≤ 3000 then cntL (n + 1 + l.vars.length) r else n
mutual
def cntT (high : Int) : Tm → Int
  | .mk _ _ _ s lv ks => if high > 700 then 3001 else cntK (high + 1) (cntL (1 + (s.size : Int).tdiv 16) lv) ks
def cntK (high n : Int) : List Tm → Int
  | [] => n
  | k :: r => if n ≤ 3000 then cntK high (n + cntT high k) r else n
end

theorem cntL_bound : ∀ (lv : List Lv) (n : Int), (∀ l ∈ lv, LvB l) → 0 ≤ n → n ≤ cntL n lv ∧ (cntL n lv ≤ n ∨ cntL n lv ≤ 8796093025001)
  | [], n, _, h => by simp [cntL]
  | l :: r, n, hb, h => by
    simp only [cntL]
    split
    · rename_i h1
      have hl := (hb l (List.mem_cons_self ..)).2.1
      obtain ⟨h2, h3⟩ := cntL_bound r (n + 1 + l.vars.length) (fun l hl => hb l (List.mem_cons_of_mem _ hl)) (by omega)
      omega
    · omega

theorem tdiv16 (m : Nat) (hm : m ≤ 140737488351232) : 0 ≤ (m : Int).tdiv 16 ∧ (m : Int).tdiv 16 ≤ 8796093021952 := by
  rw [Int.tdiv_eq_ediv_of_nonneg (by omega)]
  omega

theorem cntT_bound : ∀ t, Tm.All TmB t → ∀ high, 0 ≤ high → high ≤ 701 → 1 ≤ cntT high t ∧ cntT high t ≤ 8796093025001 + (702 - high) * 3001 := by
  refine Tm.rule fun f n hd s lv ks ih ha high hh hh' => ?_
  simp only [Tm.All, TmB, Tm.name, Tm.lv, Tm.kids] at ha
  obtain ⟨⟨_, _, a1, a2, a3, a4⟩, a5⟩ := ha
  simp only [cntT]
  by_cases h1 : high > 700
  · rw [if_pos h1]; omega
  rw [if_neg h1]
  obtain ⟨d1, d2⟩ := tdiv16 s.size a1
  obtain ⟨b1, b2⟩ := cntL_bound lv (1 + (s.size : Int).tdiv 16) a4 (by omega)
  have key : ∀ (ks' : List Tm), (∀ k ∈ ks', k ∈ ks) → ∀ m, 1 ≤ m → m ≤ 8796093025001 + (702 - high) * 3001 → 1 ≤ cntK (high + 1) m ks' ∧ cntK (high + 1) m ks' ≤ 8796093025001 + (702 - high) * 3001 := by
    intro ks'
    induction ks' with
    | nil => intro _ m h2 h3; simp only [cntK]; omega
    | cons k r ih' =>
      intro hm m h2 h3
      simp only [cntK]
      split
      · rename_i h4
        have hk := ih k (hm k (List.mem_cons_self ..)) (a5.mem k (hm k (List.mem_cons_self ..))) (high + 1) (by omega) (by omega)
        exact ih' (fun k hk => hm k (List.mem_cons_of_mem _ hk)) _ (by omega) (by omega)
      · omega
  exact key ks (fun _ h => h) _ (by omega) (by omega)

set_option maxRecDepth 100000 in
theorem cnt_ok : ∀ t, Tm.All TmB t → ∀ (cells : List AV), TmR t cells → ∀ (high : Int), 0 ≤ high → high ≤ 701 → ∀ (H : AHeap),
    SCall Try.prog 74 [.agg cells, aint 3000, aint high] H fun x H' => x = aint (cntT high t) ∧ H' = H := by
  refine Tm.rule fun f n hid s lv ks ih ha cells hT high hh hh' H => ?_
  have hbd := cntT_bound _ ha high hh hh'
  obtain ⟨lx, kx, ls, cs, rfl, hl1, hl2, hk1, hk2⟩ := hT.six
  simp only [Tm.All, TmB, Tm.form, Tm.n, Tm.hid, Tm.name, Tm.lv, Tm.kids] at *
  obtain ⟨⟨_, _, a1, a2, a3, a4⟩, a5⟩ := ha
  obtain ⟨d1, d2⟩ := tdiv16 s.size a1
  have w0 : IntKind.i64.wrap ((s.size : Int).tdiv 16) = (s.size : Int).tdiv 16 := i64_ok _ (by omega)
  have w1 : IntKind.i64.wrap (1 + (s.size : Int).tdiv 16) = 1 + (s.size : Int).tdiv 16 := i64_ok _ (by omega)
  have w2 : IntKind.i64.wrap 3001 = 3001 := i64_ok _ (by omega)
  have z16 : ¬ (16 : Int) = 0 := by omega
  refine SCall.val (SCall.intro mixed cf74 ?_)
  by_cases h1 : high > 700
  · simp -implicitDefEqProofs only [c74, go_sem, Nat.reduceEqDiff, Nat.reduceAdd, Nat.reduceLeDiff, ↓reduceIte, reduceCtorEq, Int.reduceBEq, Int.reduceBNe, Int.reduceLT, Int.reduceLE, Int.reduceGT, Int.reduceGE, Int.reduceNeg, Int.reduceAdd, Int.reduceSub, Nat.reduceMul, Nat.reduceLT, Int.reduceToNat, hk1.one, hl1.one, hk1.cells, hl1.cells, w0, w1, w2, z16, h1]
    exact ⟨by simp [cntT, h1], (Ext.refl H).new _⟩
  simp only [cntT, if_neg h1] at hbd ⊢
  simp -implicitDefEqProofs only [c74, go_sem, Nat.reduceEqDiff, Nat.reduceAdd, Nat.reduceLeDiff, ↓reduceIte, reduceCtorEq, Int.reduceBEq, Int.reduceBNe, Int.reduceLT, Int.reduceLE, Int.reduceGT, Int.reduceGE, Int.reduceNeg, Int.reduceAdd, Int.reduceSub, Nat.reduceMul, Nat.reduceLT, Int.reduceToNat, hk1.one, hl1.one, hk1.cells, hl1.cells, w0, w1, w2, z16, h1]
  generalize hn0 : 1 + (s.size : Int).tdiv 16 = n0 at *
  have hcell : ∀ {G : AHeap}, Ext (H.new (.cells [aint f, aint n, abl hid, .v (.string s), lx, kx])) G → G.get H.next = some (.cells [aint f, aint n, abl hid, .v (.string s), lx, kx]) := fun {G} hG => by
    rw [hG.2 _ (Nat.lt_succ_self _), new_get, if_pos rfl]
  obtain ⟨b1, b2⟩ := cntL_bound lv n0 a4 (by omega)
  refine cutK (M := fun st => st.tm 1 = aint 3000 ∧ st.tm 2 = aint high ∧ st.tm 3 = .ptr H.next 0 ∧ Ext (H.new (.cells [aint f, aint n, abl hid, .v (.string s), lx, kx])) st.heap ∧ st.tm 7 = aint (cntL n0 lv)) ?_ ?_
  · -- the levels
    refine swp_loop (fun k st => ∃ (i : Nat) (m : Int), k = lv.length - i ∧ i ≤ lv.length ∧ st.tm 1 = aint 3000 ∧ st.tm 2 = aint high ∧ st.tm 3 = .ptr H.next 0 ∧ st.tm 8 = aint i ∧ Ext (H.new (.cells [aint f, aint n, abl hid, .v (.string s), lx, kx])) st.heap ∧
      st.tm 7 = aint m ∧ n0 ≤ m ∧ cntL n0 lv = cntL m (lv.drop i)) (k := lv.length) ?_ ?_
    · exact ⟨0, n0, rfl, Nat.zero_le _, rfl, rfl, rfl, rfl, Ext.refl _, rfl, Int.le_refl _, by simp⟩
    rintro k ⟨tm, H2⟩ ⟨i, m, rfl, hi, t1, t2, t3, t8, hE, t7, hm1, hr⟩
    simp only at t1 t2 t3 t7 t8 hE
    have hg := hcell hE
    by_cases hlt : i < lv.length
    · have hltI : (i : Int) < (lv.length : Int) := by omega
      have hdrop : lv.drop i = lv[i] :: lv.drop (i + 1) := List.drop_eq_getElem_cons hlt
      rw [hdrop, cntL] at hr
      by_cases h3 : m ≤ 3000
      · rw [if_pos h3] at hr
        obtain ⟨vx, vs, hle, hld, hv1, hv2⟩ := hl2.at (List.getElem?_eq_getElem hlt)
        have hld1 : (ls.drop (i * 2 + 1)).take 1 = [vx] := by
          have := congrArg (fun q => (q.drop 1).take 1) hld
          simpa [List.drop_take, List.drop_drop, List.take_take] using this
        have hle1 : i * 2 + 1 + 1 ≤ ls.length := by omega
        have hvb := (a4 _ (List.getElem_mem hlt)).2.1
        have hix := hl1.aix 2 hlt
        have e1 : IntKind.i64.wrap (m + 1) = m + 1 := i64_ok _ (by omega)
        have e2 : IntKind.i64.wrap (m + 1 + (lv[i].vars.length : Int)) = m + 1 + lv[i].vars.length := i64_ok _ (by omega)
        have e3 : IntKind.i64.wrap ((i : Int) + 1) = (i : Int) + 1 := i64_ok _ (by omega)
        simp -implicitDefEqProofs only [go_sem, Nat.reduceEqDiff, Nat.reduceAdd, Nat.reduceLeDiff, ↓reduceIte, reduceCtorEq, Int.reduceBEq, Int.reduceBNe, Int.reduceLT, Int.reduceLE, Int.reduceGT, Int.reduceGE, Int.reduceNeg, Int.reduceAdd, Int.reduceSub, Nat.reduceMul, Nat.reduceLT, Int.reduceToNat, t1, t2, t3, t7, t8, hg, fun H => hl1.alen H, hltI, h3, hix, hle1, hld1, fun H => hv1.alen H, e1, e2, e3]
        exact ⟨lv.length - (i + 1), by omega, i + 1, _, rfl, by omega, by simp, hE, rfl, by omega, hr⟩
      · rw [if_neg h3] at hr
        simp -implicitDefEqProofs only [go_sem, Nat.reduceEqDiff, Nat.reduceAdd, Nat.reduceLeDiff, ↓reduceIte, reduceCtorEq, Int.reduceBEq, Int.reduceBNe, Int.reduceLT, Int.reduceLE, Int.reduceGT, Int.reduceGE, Int.reduceNeg, Int.reduceAdd, Int.reduceSub, Nat.reduceMul, Nat.reduceLT, Int.reduceToNat, t1, t2, t3, t7, t8, hg, fun H => hl1.alen H, hltI, h3]
        exact ⟨hE, by rw [hr]⟩
    · have hltI : ¬ (i : Int) < (lv.length : Int) := by omega
      rw [List.drop_of_length_le (by omega), cntL] at hr
      simp -implicitDefEqProofs only [go_sem, Nat.reduceEqDiff, Nat.reduceAdd, Nat.reduceLeDiff, ↓reduceIte, reduceCtorEq, Int.reduceBEq, Int.reduceBNe, Int.reduceLT, Int.reduceLE, Int.reduceGT, Int.reduceGE, Int.reduceNeg, Int.reduceAdd, Int.reduceSub, Nat.reduceMul, Nat.reduceLT, Int.reduceToNat, t1, t2, t3, t7, t8, hg, fun H => hl1.alen H, hltI]
      exact ⟨hE, by rw [hr]⟩
  rintro ⟨tm, H2⟩ ⟨t1, t2, t3, hE, t7⟩
  simp only at t1 t2 t3 t7 hE
  simp -implicitDefEqProofs only [go_sem, Nat.reduceEqDiff, Nat.reduceAdd, Nat.reduceLeDiff, ↓reduceIte, reduceCtorEq, Int.reduceBEq, Int.reduceBNe, Int.reduceLT, Int.reduceLE, Int.reduceGT, Int.reduceGE, Int.reduceNeg, Int.reduceAdd, Int.reduceSub, Nat.reduceMul, Nat.reduceLT, Int.reduceToNat, t1, t2, t3, t7]
  have hm0 : 1 ≤ cntL n0 lv := by omega
  have hm9 : cntL n0 lv ≤ 8796093025001 := by omega
  refine swp_loop (fun k st => ∃ (i : Nat) (m : Int), k = ks.length - i ∧ i ≤ ks.length ∧ st.tm 1 = aint 3000 ∧ st.tm 2 = aint high ∧ st.tm 3 = .ptr H.next 0 ∧ st.tm 9 = aint i ∧ Ext (H.new (.cells [aint f, aint n, abl hid, .v (.string s), lx, kx])) st.heap ∧
    st.tm 7 = aint m ∧ 1 ≤ m ∧ cntK (high + 1) (cntL n0 lv) ks = cntK (high + 1) m (ks.drop i)) (k := ks.length) ?_ ?_
  · refine ⟨0, _, rfl, Nat.zero_le _, ?_, ?_, ?_, rfl, hE, ?_, hm0, by simp⟩
    all_goals simp -implicitDefEqProofs only [go_sem, Nat.reduceEqDiff, Nat.reduceAdd, Nat.reduceLeDiff, ↓reduceIte, reduceCtorEq, Int.reduceBEq, Int.reduceBNe, Int.reduceLT, Int.reduceLE, Int.reduceGT, Int.reduceGE, Int.reduceNeg, Int.reduceAdd, Int.reduceSub, Nat.reduceMul, Nat.reduceLT, Int.reduceToNat, t1, t2, t3, t7]
  rintro k ⟨tm, H2⟩ ⟨i, m, rfl, hi, t1, t2, t3, t9, hE, t7, hm1, hr⟩
  simp only at t1 t2 t3 t7 t9 hE
  have hg := hcell hE
  have hEH : Ext H H2 := ((Ext.refl H).new _).trans hE
  by_cases hlt : i < ks.length
  · have hltI : (i : Int) < (ks.length : Int) := by omega
    have hdrop : ks.drop i = ks[i] :: ks.drop (i + 1) := List.drop_eq_getElem_cons hlt
    rw [hdrop, cntK] at hr
    by_cases h3 : m ≤ 3000
    · rw [if_pos h3] at hr
      obtain ⟨kc, hkc, hle, hld⟩ := hk2.load (List.getElem?_eq_getElem hlt)
      have hix := hk1.aix 6 hlt
      have hkb := cntT_bound _ (a5.mem _ (List.getElem_mem hlt)) (high + 1) (by omega) (by omega)
      have e1 : IntKind.i64.wrap (high + 1) = high + 1 := i64_ok _ (by omega)
      have e2 : IntKind.i64.wrap (m + cntT (high + 1) ks[i]) = m + cntT (high + 1) ks[i] := i64_ok _ (by omega)
      have e3 : IntKind.i64.wrap ((i : Int) + 1) = (i : Int) + 1 := i64_ok _ (by omega)
      simp -implicitDefEqProofs only [go_sem, Nat.reduceEqDiff, Nat.reduceAdd, Nat.reduceLeDiff, ↓reduceIte, reduceCtorEq, Int.reduceBEq, Int.reduceBNe, Int.reduceLT, Int.reduceLE, Int.reduceGT, Int.reduceGE, Int.reduceNeg, Int.reduceAdd, Int.reduceSub, Nat.reduceMul, Nat.reduceLT, Int.reduceToNat, t1, t2, t3, t7, t9, hg, fun H => hk1.alen H, hltI, h3, hix, hle, hld, e1]
      refine i_callA (fs := []) (cs := []) ?_ ?_ (ih ks[i] (List.getElem_mem hlt) (a5.mem _ (List.getElem_mem hlt)) _ hkc (high + 1) (by omega) (by omega) _) ?_
      · rfl
      · simp -implicitDefEqProofs only [go_sem, Nat.reduceEqDiff, Nat.reduceAdd, Nat.reduceLeDiff, ↓reduceIte, reduceCtorEq, Int.reduceBEq, Int.reduceBNe, Int.reduceLT, Int.reduceLE, Int.reduceGT, Int.reduceGE, Int.reduceNeg, Int.reduceAdd, Int.reduceSub, Nat.reduceMul, Nat.reduceLT, Int.reduceToNat, t1, t2, e1]
      rintro x H3 ⟨rfl, rfl⟩
      simp -implicitDefEqProofs only [go_sem, Nat.reduceEqDiff, Nat.reduceAdd, Nat.reduceLeDiff, ↓reduceIte, reduceCtorEq, Int.reduceBEq, Int.reduceBNe, Int.reduceLT, Int.reduceLE, Int.reduceGT, Int.reduceGE, Int.reduceNeg, Int.reduceAdd, Int.reduceSub, Nat.reduceMul, Nat.reduceLT, Int.reduceToNat, t7, t9, e2, e3]
      exact ⟨ks.length - (i + 1), by omega, i + 1, _, rfl, by omega, t1, t2, t3, by simp, hE, rfl, by omega, hr⟩
    · rw [if_neg h3] at hr
      simp -implicitDefEqProofs only [go_sem, Nat.reduceEqDiff, Nat.reduceAdd, Nat.reduceLeDiff, ↓reduceIte, reduceCtorEq, Int.reduceBEq, Int.reduceBNe, Int.reduceLT, Int.reduceLE, Int.reduceGT, Int.reduceGE, Int.reduceNeg, Int.reduceAdd, Int.reduceSub, Nat.reduceMul, Nat.reduceLT, Int.reduceToNat, t1, t2, t3, t7, t9, hg, fun H => hk1.alen H, hltI, h3]
      exact ⟨by rw [hr], hEH⟩
  · have hltI : ¬ (i : Int) < (ks.length : Int) := by omega
    rw [List.drop_of_length_le (by omega), cntK] at hr
    simp -implicitDefEqProofs only [go_sem, Nat.reduceEqDiff, Nat.reduceAdd, Nat.reduceLeDiff, ↓reduceIte, reduceCtorEq, Int.reduceBEq, Int.reduceBNe, Int.reduceLT, Int.reduceLE, Int.reduceGT, Int.reduceGE, Int.reduceNeg, Int.reduceAdd, Int.reduceSub, Nat.reduceMul, Nat.reduceLT, Int.reduceToNat, t1, t2, t3, t7, t9, hg, fun H => hk1.alen H, hltI]
    exact ⟨by rw [hr], hEH⟩

def bigF (t : Tm) : Bool := decide (cntT 0 t > 3000)

set_option maxRecDepth 100000 in
theorem big_ok (t : Tm) (ha : Tm.All TmB t) (cells : List AV) (hT : TmR t cells) (H : AHeap) : SCall Try.prog 15 [.agg cells] H fun x H' => x = abl (bigF t) ∧ H' = H := by
  refine SCall.val (SCall.intro mixed cf15 ?_)
  have hT' := hT
  obtain ⟨lx, kx, ls, cs, rfl, hl1, hl2, hk1, hk2⟩ := hT.six
  simp -implicitDefEqProofs only [c15, go_sem, Nat.reduceEqDiff, Nat.reduceAdd, Nat.reduceLeDiff, ↓reduceIte, reduceCtorEq, Int.reduceBEq, Int.reduceBNe, Int.reduceLT, Int.reduceLE, Int.reduceGT, Int.reduceGE, Int.reduceNeg, Int.reduceAdd, Int.reduceSub, Nat.reduceMul, Nat.reduceLT, Int.reduceToNat, hk1.one, hl1.one, hk1.cells, hl1.cells]
  refine i_callA (fs := []) (cs := []) ?_ ?_ (cnt_ok t ha _ hT' 0 (by omega) (by omega) _) ?_
  · rfl
  · simp -implicitDefEqProofs only [go_sem, Nat.reduceEqDiff, Nat.reduceAdd, Nat.reduceLeDiff, ↓reduceIte, reduceCtorEq, Int.reduceBEq, Int.reduceBNe, Int.reduceLT, Int.reduceLE, Int.reduceGT, Int.reduceGE, Int.reduceNeg, Int.reduceAdd, Int.reduceSub, Nat.reduceMul, Nat.reduceLT, Int.reduceToNat]
  rintro x H3 ⟨rfl, rfl⟩
  simp -implicitDefEqProofs only [go_sem, Nat.reduceEqDiff, Nat.reduceAdd, Nat.reduceLeDiff, ↓reduceIte, reduceCtorEq, Int.reduceBEq, Int.reduceBNe, Int.reduceLT, Int.reduceLE, Int.reduceGT, Int.reduceGE, Int.reduceNeg, Int.reduceAdd, Int.reduceSub, Nat.reduceMul, Nat.reduceLT, Int.reduceToNat]
  exact ⟨rfl, (Ext.refl H).new _⟩
end Go.Proofs.Ytooaiddfokbffaa.E

/- What a term that is not too much is bounded by; a term lent. Conditions: none. -/
set_option linter.unusedVariables false
set_option linter.unusedSimpArgs false
namespace Go.Proofs.Ytooaiddfokbffaa.E
open Go Go.Proofs
attribute [local go_sem] s_seq s_ops s_draw s_block s_skip s_ret s_exit i_nil i_cons i_run i_runG s_condQ c_true c_false aop ev_t ev_c updO_at updO_no upd_at t_normal t_ret t_exit b_normal b_ret b_exit a_some ac_v ac_agg ac_ptr ac_slc ac_ro ac_rop ac_fn new_next set_next argTm_zero argTm_succ argTm_nil ab_bool ab_uv beq_self_eq_true Option.some_beq_some Bool.not_not beq_iff_eq decide_true decide_false Bool.not_true Bool.not_false afld aload astore apack alen_str alen_ro alen_slc alen_nil new_get set_get ite_true ite_false Option.map_some Option.bind_some ibin isShift Nat.add_zero Nat.zero_add List.length_cons List.length_nil List.drop_zero List.drop_succ_cons List.take_succ_cons List.take_zero if_true if_false setL List.set_cons_zero List.set_cons_succ List.all_cons List.all_nil one_int one_bool one_str one_nil one_ptr one_slc one_ro one_rop one_fn Bool.and_self Bool.and_true true_and and_true and_self Bool.false_eq_true post_ret post_normal resAll resOne packR Option.some.injEq exists_eq_left' List.map_cons List.map_nil List.nil_append List.append_nil List.cons_append d_nil d_cons k_nil k_cons g_op g_same g_new avBlock forall_eq' List.getElem?_cons_succ List.getElem?_cons_zero List.getElem?_nil okind gOk bne false_imp_iff forall_const imp_self implies_true true_imp_iff i_callG

mutual
def szT : Tm → Nat
  | .mk _ _ _ _ _ ks => 1 + szK ks
def szK : List Tm → Nat
  | [] => 0
  | k :: r => szT k + szK r
end
mutual
def htT : Tm → Nat
  | .mk _ _ _ _ _ ks => 1 + htK ks
def htK : List Tm → Nat
  | [] => 0
  | k :: r => max (htT k) (htK r)
end

theorem htK_mem : ∀ {ks : List Tm} {k : Tm}, k ∈ ks → htT k ≤ htK ks
  | k0 :: ks, k, h => by
    simp only [htK]
    rcases List.mem_cons.1 h with rfl | h
    · omega
    · have := htK_mem h; omega

/-- What a part of a small term may be. -/
def Sml (t : Tm) : Prop := t.name.size ≤ 48015 ∧ t.lv.length ≤ 3000 ∧ t.kids.length ≤ 3000 ∧ ∀ l ∈ t.lv, l.vars.length ≤ 3000

/-! ### A term lent -/
def lentC : List AV := [aint (-71), aint 0, abl false, nostr, nils, nils]
mutual
def LentR : Tm → List AV → Prop
  | .mk f n h s lv ks, cells => ∃ lx kx ls cs, cells = [aint f, aint n, abl h, .v (.string s), lx, kx] ∧ SlR lv.length lx ls ∧ LvsR lv ls ∧ (∃ lo ex, kx = .ro ks.length lo ex cs ∧ ks.length + 1 ≤ lo) ∧ LentK ks cs
def LentK : List Tm → List AV → Prop
  | [], cs => cs.take 6 = lentC
  | k :: ks, cs => LentR k (cs.take 6) ∧ LentK ks (cs.drop 6)
end
theorem LentR.len {t : Tm} {cells : List AV} (h : LentR t cells) : cells.length = 6 := by
  cases t
  simp only [LentR] at h
  obtain ⟨_, _, _, _, rfl, _⟩ := h
  rfl
theorem LentR.tm : ∀ t, ∀ cells, LentR t cells → TmR t cells := by
  refine Tm.rule fun f n hd s lv ks ih cells h => ?_
  simp only [LentR] at h
  obtain ⟨lx, kx, ls, cs, rfl, h1, h2, ⟨lo, ex, rfl, h3⟩, h4⟩ := h
  simp only [TmR]
  refine ⟨lx, _, ls, cs, rfl, h1, h2, .inr ⟨lo, ex, rfl, by omega⟩, ?_⟩
  have key : ∀ (ks' : List Tm), (∀ k ∈ ks', k ∈ ks) → ∀ cs, LentK ks' cs → KsR ks' cs := by
    intro ks'
    induction ks' with
    | nil => intro _ cs _; trivial
    | cons k r ih' =>
      intro hm cs h
      simp only [LentK] at h
      exact ⟨ih k (hm k (List.mem_cons_self ..)) _ h.1, ih' (fun k hk => hm k (List.mem_cons_of_mem _ hk)) _ h.2⟩
  exact key ks (fun _ h => h) cs h4

theorem setL_eq : ∀ (xs l : List AV) (i : Nat), i + xs.length ≤ l.length → setL l i xs = l.take i ++ xs ++ l.drop (i + xs.length)
  | [], l, i, h => by simp [setL]
  | x :: xs, l, i, h => by
    simp only [List.length_cons] at h
    rw [setL, setL_eq xs (l.set i x) (i + 1) (by rw [List.length_set]; omega)]
    have hi : i < l.length := by omega
    rw [List.take_set, List.drop_set_of_lt (by omega)]
    have : (l.take (i + 1)).set i x = l.take i ++ [x] := by
      rw [List.take_succ_eq_append_getElem hi, List.set_append_right _ _ (by rw [List.length_take]; omega), List.length_take, show i - min i l.length = 0 by omega]
      rfl
    rw [this]
    simp only [List.append_assoc, List.cons_append, List.nil_append, List.length_cons]
    rw [show i + 1 + xs.length = i + (xs.length + 1) by omega]

theorem lent_step {l c : List AV} {i n : Nat} (hl : l.length = n * 6) (hi : i < n) (hc : c.length = 6) (hb : i * 6 + 6 ≤ l.length) :
    (setL l (i * 6) c).length = n * 6 ∧ (∀ j, j < n → ((setL l (i * 6) c).drop (j * 6)).take 6 = if j = i then c else (l.drop (j * 6)).take 6) := by
  refine ⟨by rw [setL_length, hl], fun j hj => ?_⟩
  rw [setL_eq _ _ _ (by rw [hc]; omega), hc]
  by_cases h : j = i
  · subst h
    rw [if_pos rfl, List.append_assoc, List.drop_append_of_le_length (by rw [List.length_take]; omega), List.drop_of_length_le (by rw [List.length_take]; omega), List.nil_append, List.take_append_of_le_length (by omega), List.take_of_length_le (by omega)]
  · rw [if_neg h]
    rcases Nat.lt_or_gt_of_ne h with h | h
    · have hj6 : j * 6 + 6 ≤ i * 6 := by omega
      rw [List.append_assoc, List.drop_append_of_le_length (by rw [List.length_take]; omega), List.take_append_of_le_length (by rw [List.length_drop, List.length_take]; omega), List.drop_take, List.take_take, show min 6 (i * 6 - j * 6) = 6 by omega]
    · have hj6 : i * 6 + 6 ≤ j * 6 := by omega
      rw [List.drop_append, List.drop_of_length_le (by rw [List.length_append, List.length_take, hc]; omega), List.nil_append, List.length_append, List.length_take, hc, List.drop_drop, show i * 6 + 6 + (j * 6 - (min (i * 6) l.length + 6)) = j * 6 by omega]

end Go.Proofs.Ytooaiddfokbffaa.E

/- A term that was lent is as it was. Conditions: none. -/
set_option linter.unusedVariables false
set_option linter.unusedSimpArgs false
namespace Go.Proofs.Ytooaiddfokbffaa.E
open Go Go.Proofs
attribute [local go_sem] s_seq s_ops s_draw s_block s_skip s_ret s_exit i_nil i_cons i_run i_runG s_condQ c_true c_false aop ev_t ev_c updO_at updO_no upd_at t_normal t_ret t_exit b_normal b_ret b_exit a_some ac_v ac_agg ac_ptr ac_slc ac_ro ac_rop ac_fn new_next set_next argTm_zero argTm_succ argTm_nil ab_bool ab_uv beq_self_eq_true Option.some_beq_some Bool.not_not beq_iff_eq decide_true decide_false Bool.not_true Bool.not_false afld aload astore apack alen_str alen_ro alen_slc alen_nil new_get set_get ite_true ite_false Option.map_some Option.bind_some ibin isShift Nat.add_zero Nat.zero_add List.length_cons List.length_nil List.drop_zero List.drop_succ_cons List.take_succ_cons List.take_zero if_true if_false setL List.set_cons_zero List.set_cons_succ List.all_cons List.all_nil one_int one_bool one_str one_nil one_ptr one_slc one_ro one_rop one_fn Bool.and_self Bool.and_true true_and and_true and_self Bool.false_eq_true post_ret post_normal resAll resOne packR Option.some.injEq exists_eq_left' List.map_cons List.map_nil List.nil_append List.append_nil List.cons_append d_nil d_cons k_nil k_cons g_op g_same g_new avBlock forall_eq' List.getElem?_cons_succ List.getElem?_cons_zero List.getElem?_nil okind gOk bne false_imp_iff forall_const imp_self implies_true true_imp_iff i_callG

theorem FrzN.six {n : Nat} {H : AHeap} {a1 a2 a3 a4 a5 a6 b1 b2 b3 b4 b5 b6 : AV} (h1 : FrzN n H a1 b1) (h2 : FrzN n H a2 b2) (h3 : FrzN n H a3 b3) (h4 : FrzN n H a4 b4) (h5 : FrzN n H a5 b5) (h6 : FrzN n H a6 b6) :
    FrzN n H (.agg [a1, a2, a3, a4, a5, a6]) (.agg [b1, b2, b3, b4, b5, b6]) :=
  .agg _ _ rfl fun i x y hx hy => by
    match i, hx, hy with
    | 0, hx, hy => simp at hx hy; subst hx hy; exact h1
    | 1, hx, hy => simp at hx hy; subst hx hy; exact h2
    | 2, hx, hy => simp at hx hy; subst hx hy; exact h3
    | 3, hx, hy => simp at hx hy; subst hx hy; exact h4
    | 4, hx, hy => simp at hx hy; subst hx hy; exact h5
    | 5, hx, hy => simp at hx hy; subst hx hy; exact h6

theorem LentK.at : ∀ {ks : List Tm} {cs : List AV}, LentK ks cs → ∀ {i : Nat} (hi : i < ks.length), i * 6 + 6 ≤ cs.length ∧ LentR ks[i] ((cs.drop (i * 6)).take 6)
  | [], _, _, i, hi => by cases hi
  | k :: ks, cs, h, i, hi => by
    simp only [LentK] at h
    cases i with
    | zero =>
      have := h.1.len
      rw [List.length_take] at this
      exact ⟨by omega, by simpa using h.1⟩
    | succ i =>
      obtain ⟨h1, h2⟩ := LentK.at h.2 (i := i) (by simpa using hi)
      rw [List.length_drop] at h1
      rw [List.drop_drop] at h2
      exact ⟨by omega, by rw [show (i + 1) * 6 = 6 + i * 6 by omega]; simpa using h2⟩

theorem LentR.six {t : Tm} {cells : List AV} (h : LentR t cells) : ∃ lx ls cs lo ex, cells = [aint t.form, aint t.n, abl t.hid, .v (.string t.name), lx, .ro t.kids.length lo ex cs] ∧ SlR t.lv.length lx ls ∧ LvsR t.lv ls ∧ t.kids.length + 1 ≤ lo ∧ LentK t.kids cs := by
  cases t
  simp only [LentR] at h
  obtain ⟨lx, kx, ls, cs, rfl, h1, h2, ⟨lo, ex, rfl, h3⟩, h4⟩ := h
  exact ⟨lx, ls, cs, lo, ex, rfl, h1, h2, h3, h4⟩

end Go.Proofs.Ytooaiddfokbffaa.E

/- Parts of a term asked one by one, and its free variables. Conditions: none. -/
set_option linter.unusedVariables false
set_option linter.unusedSimpArgs false
namespace Go.Proofs.Ytooaiddfokbffaa.E
open Go Go.Proofs
attribute [local go_sem] s_seq s_ops s_draw s_block s_skip s_ret s_exit i_nil i_cons i_run i_runG s_condQ c_true c_false aop ev_t ev_c updO_at updO_no upd_at t_normal t_ret t_exit b_normal b_ret b_exit a_some ac_v ac_agg ac_ptr ac_slc ac_ro ac_rop ac_fn new_next set_next argTm_zero argTm_succ argTm_nil ab_bool ab_uv beq_self_eq_true Option.some_beq_some Bool.not_not beq_iff_eq decide_true decide_false Bool.not_true Bool.not_false afld aload astore apack alen_str alen_ro alen_slc alen_nil new_get set_get ite_true ite_false Option.map_some Option.bind_some ibin isShift Nat.add_zero Nat.zero_add List.length_cons List.length_nil List.drop_zero List.drop_succ_cons List.take_succ_cons List.take_zero if_true if_false setL List.set_cons_zero List.set_cons_succ List.all_cons List.all_nil one_int one_bool one_str one_nil one_ptr one_slc one_ro one_rop one_fn Bool.and_self Bool.and_true true_and and_true and_self Bool.false_eq_true post_ret post_normal resAll resOne packR Option.some.injEq exists_eq_left' List.map_cons List.map_nil List.nil_append List.append_nil List.cons_append d_nil d_cons k_nil k_cons g_op g_same g_new avBlock forall_eq' List.getElem?_cons_succ List.getElem?_cons_zero List.getElem?_nil okind gOk bne false_imp_iff forall_const imp_self implies_true true_imp_iff i_callG

section
variable (isF : Tm → Int → List AV → Bool × List AV)
mutual
def anyT (deep : Int) (c : List AV) : Tm → Bool × List AV
  | .mk f n h s lv ks => if (isF (.mk f n h s lv ks) deep c).1 = true then (true, (isF (.mk f n h s lv ks) deep c).2) else anyK f 0 deep (isF (.mk f n h s lv ks) deep c).2 ks
def anyK (f : Int) (i : Nat) (deep : Int) (c : List AV) : List Tm → Bool × List AV
  | [] => (false, c)
  | k :: r => if (anyT (underF f i deep) c k).1 = true then (true, (anyT (underF f i deep) c k).2) else anyK f (i + 1) deep (anyT (underF f i deep) c k).2 r
end
end

theorem underF_bound (f i deep : Int) : deep ≤ underF f i deep ∧ underF f i deep ≤ deep + 1 := by
  unfold underF; split <;> omega

end Go.Proofs.Ytooaiddfokbffaa.E

/- The free variables of a term, and whether a name stands in it. Conditions: none. -/
set_option linter.unusedVariables false
set_option linter.unusedSimpArgs false
namespace Go.Proofs.Ytooaiddfokbffaa.E
open Go Go.Proofs
attribute [local go_sem] s_seq s_ops s_draw s_block s_skip s_ret s_exit i_nil i_cons i_run i_runG s_condQ c_true c_false aop ev_t ev_c updO_at updO_no upd_at t_normal t_ret t_exit b_normal b_ret b_exit a_some ac_v ac_agg ac_ptr ac_slc ac_ro ac_rop ac_fn new_next set_next argTm_zero argTm_succ argTm_nil ab_bool ab_uv beq_self_eq_true Option.some_beq_some Bool.not_not beq_iff_eq decide_true decide_false Bool.not_true Bool.not_false afld aload astore apack alen_str alen_ro alen_slc alen_nil new_get set_get ite_true ite_false Option.map_some Option.bind_some ibin isShift Nat.add_zero Nat.zero_add List.length_cons List.length_nil List.drop_zero List.drop_succ_cons List.take_succ_cons List.take_zero if_true if_false setL List.set_cons_zero List.set_cons_succ List.all_cons List.all_nil one_int one_bool one_str one_nil one_ptr one_slc one_ro one_rop one_fn Bool.and_self Bool.and_true true_and and_true and_self Bool.false_eq_true post_ret post_normal resAll resOne packR Option.some.injEq exists_eq_left' List.map_cons List.map_nil List.nil_append List.append_nil List.cons_append d_nil d_cons k_nil k_cons g_op g_same g_new avBlock forall_eq' List.getElem?_cons_succ List.getElem?_cons_zero List.getElem?_nil okind gOk bne false_imp_iff forall_const imp_self implies_true true_imp_iff i_callG

/-- The greater one. -/
def mx (m q : Int) : Int := if q > m then q else m
mutual
def freeT (deep : Int) : Tm → Int
  | .mk f n _ _ _ ks => if f = 1 then (if n < deep then 0 else n - deep + 1) else freeK f deep 0 0 ks
def freeK (f deep : Int) (i : Nat) (m : Int) : List Tm → Int
  | [] => m
  | k :: r => freeK f deep (i + 1) (mx m (freeT (underF f i deep) k)) r
end

/-- A variable's index, and that it has no kids. -/
def Vok (t : Tm) : Prop := t.kids.length ≤ 4611686018427387904 ∧ (t.form = 1 → (0 ≤ t.n ∧ t.n ≤ 1073741824) ∧ t.kids = [])

def isFree (t : Tm) (deep : Int) (c : List AV) : Bool × List AV :=
  (false, if t.form = 1 then (match c with | [.v (.int .i64 m)] => [aint (mx m (t.n - deep + 1))] | c => c) else c)

theorem check_form {r : Lv → Bool} {t : Tm} (h : checkF r t = 0) : (fitT 0 1 t).1 = true ∧ allF (formF r) t = true := by
  unfold checkF at h
  split at h
  · cases h
  · rename_i h1
    split at h
    · cases h
    · rename_i h2
      exact ⟨by simpa using h1, by simpa using h2⟩

def freeF (r : Lv → Bool) (t : Tm) : Int := if checkF r t = 0 then freeT 0 t else 0

end Go.Proofs.Ytooaiddfokbffaa.E

/- Whether a constant's name stands in a term. Conditions: none. -/
set_option linter.unusedVariables false
set_option linter.unusedSimpArgs false
namespace Go.Proofs.Ytooaiddfokbffaa.E
open Go Go.Proofs
attribute [local go_sem] s_seq s_ops s_draw s_block s_skip s_ret s_exit i_nil i_cons i_run i_runG s_condQ c_true c_false aop ev_t ev_c updO_at updO_no upd_at t_normal t_ret t_exit b_normal b_ret b_exit a_some ac_v ac_agg ac_ptr ac_slc ac_ro ac_rop ac_fn new_next set_next argTm_zero argTm_succ argTm_nil ab_bool ab_uv beq_self_eq_true Option.some_beq_some Bool.not_not beq_iff_eq decide_true decide_false Bool.not_true Bool.not_false afld aload astore apack alen_str alen_ro alen_slc alen_nil new_get set_get ite_true ite_false Option.map_some Option.bind_some ibin isShift Nat.add_zero Nat.zero_add List.length_cons List.length_nil List.drop_zero List.drop_succ_cons List.take_succ_cons List.take_zero if_true if_false setL List.set_cons_zero List.set_cons_succ List.all_cons List.all_nil one_int one_bool one_str one_nil one_ptr one_slc one_ro one_rop one_fn Bool.and_self Bool.and_true true_and and_true and_self Bool.false_eq_true post_ret post_normal resAll resOne packR Option.some.injEq exists_eq_left' List.map_cons List.map_nil List.nil_append List.append_nil List.cons_append d_nil d_cons k_nil k_cons g_op g_same g_new avBlock forall_eq' List.getElem?_cons_succ List.getElem?_cons_zero List.getElem?_nil okind gOk bne false_imp_iff forall_const imp_self implies_true true_imp_iff i_callG

def sameS (a b : ByteArray) : Bool := a.data.toList == b.data.toList

mutual
def hasT (nm : ByteArray) : Tm → Bool
  | .mk f _ _ s _ ks => if f = 10 ∧ sameS s nm = true then true else hasK nm ks
def hasK (nm : ByteArray) : List Tm → Bool
  | [] => false
  | k :: r => if hasT nm k = true then true else hasK nm r
end

def isHas (nm : ByteArray) (t : Tm) (deep : Int) (c : List AV) : Bool × List AV := (decide (t.form = 10 ∧ sameS t.name nm = true), c)

def Kok (t : Tm) : Prop := t.kids.length ≤ 4611686018427387904

def hasF (r : Lv → Bool) (nm : ByteArray) (t : Tm) : Bool := if checkF r t = 0 then hasT nm t else false

end Go.Proofs.Ytooaiddfokbffaa.E

/- The law TermChecks, walked. Conditions: none. -/
set_option linter.unusedVariables false
set_option linter.unusedSimpArgs false
namespace Go.Proofs.Ytooaiddfokbffaa.E
open Go Go.Proofs
attribute [local go_sem] s_seq s_ops s_draw s_block s_skip s_ret s_exit i_nil i_cons i_run i_runG s_condQ c_true c_false aop ev_t ev_c updO_at updO_no upd_at t_normal t_ret t_exit b_normal b_ret b_exit a_some ac_v ac_agg ac_ptr ac_slc ac_ro ac_rop ac_fn new_next set_next argTm_zero argTm_succ argTm_nil ab_bool ab_uv beq_self_eq_true Option.some_beq_some Bool.not_not beq_iff_eq decide_true decide_false Bool.not_true Bool.not_false afld aload astore apack alen_str alen_ro alen_slc alen_nil new_get set_get ite_true ite_false Option.map_some Option.bind_some ibin isShift Nat.add_zero Nat.zero_add List.length_cons List.length_nil List.drop_zero List.drop_succ_cons List.take_succ_cons List.take_zero if_true if_false setL List.set_cons_zero List.set_cons_succ List.all_cons List.all_nil one_int one_bool one_str one_nil one_ptr one_slc one_ro one_rop one_fn Bool.and_self Bool.and_true true_and and_true and_self Bool.false_eq_true post_ret post_normal resAll resOne packR Option.some.injEq exists_eq_left' List.map_cons List.map_nil List.nil_append List.append_nil List.cons_append d_nil d_cons k_nil k_cons g_op g_same g_new avBlock forall_eq' List.getElem?_cons_succ List.getElem?_cons_zero List.getElem?_nil okind gOk bne false_imp_iff forall_const imp_self implies_true true_imp_iff i_callG

theorem all_mono {p q : Tm → Prop} (h : ∀ t, p t → q t) : ∀ t, Tm.All p t → Tm.All q t := by
  refine Tm.rule fun f n hd s lv ks ih ha => ?_
  simp only [Tm.All] at *
  refine ⟨h _ ha.1, ?_⟩
  have key : ∀ ks', (∀ k ∈ ks', k ∈ ks) → Tm.AllL q ks' := by
    intro ks'
    induction ks' with
    | nil => intro _; trivial
    | cons k r ih' => intro hm; exact ⟨ih k (hm k (List.mem_cons_self ..)) (ha.2.mem k (hm k (List.mem_cons_self ..))), ih' fun k hk => hm k (List.mem_cons_of_mem _ hk)⟩
  exact key ks fun _ h => h

theorem tmb_fine {t : Tm} (h : Tm.All TmB t) : Tm.All (Fine canF) t := all_mono (fun t ⟨_, _, h1, h2, h3, h4⟩ => ⟨by omega, by omega, fun l hl => can_ok l (by have := (h4 l hl).2.1; omega)⟩) t h
theorem tmb_fine2 {t : Tm} (h : Tm.All TmB t) : Tm.All (Fine2 canF) t := all_mono (fun t ⟨_, _, h1, h2, h3, h4⟩ => ⟨by omega, by omega, fun l hl => can2_ok l (by have := (h4 l hl).2.1; omega)⟩) t h

end Go.Proofs.Ytooaiddfokbffaa.E

/- What is handed to a law, as abstract values. Conditions: none. -/
set_option linter.unusedVariables false
set_option linter.unusedSimpArgs false
namespace Go.Proofs.Ytooaiddfokbffaa.E
open Go Go.Proofs Go.ChangeShapes Go.WideShapes Go.ChangeAt Go.RowKit

section
variable {H : Type} {enc : TypeId × Value → H} {w : World} {base : Nat} {sp : Nat → Bool} {held : Bool}

theorem old0 {x : AV} {u : Value} (h : VRel Emb.empty w x u) : Old 0 x := h.old fun b c hm => by cases hm

theorem agg_of {v : Value} (h : v.cells.toList.length = 6) : ∃ cs : Array Value, v = .agg cs := by
  cases v <;> simp [Value.cells] at h
  exact ⟨_, rfl⟩

theorem term_arg {v : Value} {d : DataW H} {ps : List MemPlace} (h : DataW.Trod enc Try.prog w base sp held 25 v d ps) (hw : Wt Try.prog 25 d) :
    ∃ (t : Tm) (ys : List AV), Tm.All TmB t ∧ TmR t ys ∧ (∀ y ∈ ys, Old 0 y) ∧ VRel Emb.empty w (.agg ys) v := by
  obtain ⟨fuel, hf⟩ := h
  obtain ⟨t, ys, h1, h2, h3⟩ := trod_tm fuel _ d ps hf hw
  have hl : v.cells.toList.length = 6 := by rw [h3.1, h2.len]
  obtain ⟨cs, rfl⟩ := agg_of hl
  have hv : VRel Emb.empty w (.agg ys) (.agg cs) := .agg ys cs (by have := h3.1; simpa [Value.cells] using this) fun i x u hx hu => h3.2 i x u hx (by simpa [Value.cells] using hu)
  exact ⟨t, ys, h1, h2, (old0 hv).aggs, hv⟩

theorem wt_arg {ts : List TypeId} {ds : List (DataW H)} (hsz : (DataW.weightsEach Try.prog ts ds).all (· ≤ reachBytes) = true) {j : Nat} {t : TypeId} {d : DataW H} (ht : ts[j]? = some t) (hd : ds[j]? = some d) : Wt Try.prog t d := by
  intro n hn
  have := List.all_eq_true.1 hsz n (DataW.weights_mem_each ht hd n hn)
  simpa using this

theorem lrel_nil : LRel Emb.empty w [] [] := ⟨rfl, fun i x u h => by simp at h⟩

/-- From the abstract call to the law's own words. -/
theorem law_walk {f : FuncId} {args : List AV} {us : List Value} (h : SCall Try.prog f args AHeap.empty fun x H' => x = abl true ∧ H' = AHeap.empty) (hL : LRel Emb.empty w args us) :
    Calls Try.prog f us.toArray w fun e w' => e = .returned (.bool true) ∧ Below w.heap.size w w' := by
  refine (h.2 Emb.empty w us (HRel.none w) hL).mono fun en w' hp => ?_
  obtain ⟨u, x, H', e', rfl, h1, h2, h3, h4⟩ := hp
  obtain ⟨rfl, _⟩ := h1
  cases h3
  exact ⟨rfl, h4.os, h4.tape, h4.output, h4.size, fun k hk => h4.frame k hk (nohit k)⟩
end
theorem laidOut : laidOutB Try.prog = true := by kernel_rfl
theorem own : ownKnob Try.prog.godebug = none := by kernel_rfl
end Go.Proofs.Ytooaiddfokbffaa.E
