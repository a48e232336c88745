/- Texts of the proof, one behind the other. Conditions: none. -/
import Derived.Test.YtooaiddfokbffaaA6
/- Terms copied as the reference does it. Conditions: none. -/
set_option linter.unusedVariables false
set_option linter.unusedSimpArgs false
namespace Go.Proofs.Ytooaiddfokbffaa.E
open Go Go.Proofs
attribute [local go_sem] s_seq s_ops s_draw s_block s_skip s_ret s_exit i_nil i_cons i_run i_runG s_condQ c_true c_false aop ev_t ev_c updO_at updO_no upd_at t_normal t_ret t_exit b_normal b_ret b_exit a_some ac_v ac_agg ac_ptr ac_slc ac_ro ac_rop ac_fn new_next set_next argTm_zero argTm_succ argTm_nil ab_bool ab_uv beq_self_eq_true Option.some_beq_some Bool.not_not beq_iff_eq decide_true decide_false Bool.not_true Bool.not_false afld aload astore apack alen_str alen_ro alen_slc alen_nil new_get set_get ite_true ite_false Option.map_some Option.bind_some ibin isShift Nat.add_zero Nat.zero_add List.length_cons List.length_nil List.drop_zero List.drop_succ_cons List.take_succ_cons List.take_zero if_true if_false setL List.set_cons_zero List.set_cons_succ List.all_cons List.all_nil one_int one_bool one_str one_nil one_ptr one_slc one_ro one_rop one_fn Bool.and_self Bool.and_true true_and and_true and_self Bool.false_eq_true post_ret post_normal resAll resOne packR Option.some.injEq exists_eq_left' List.map_cons List.map_nil List.nil_append List.append_nil List.cons_append d_nil d_cons k_nil k_cons g_op g_same g_new avBlock forall_eq' List.getElem?_cons_succ List.getElem?_cons_zero List.getElem?_nil okind gOk bne false_imp_iff forall_const imp_self implies_true true_imp_iff i_callG

/-- An appended row lies in a new block. -/
theorem OutS.stepN {H : AHeap} {base es n : Nat} {l : List AV} {x : AV} {K : ASt → Prop} {tm : Nat → AV} {d : Option Nat} {bytes m : Nat} {y : AV} {new : List AV} (hO : OutS H base es n l x) (hsrc : asrc H es y = some (m, new)) (hone : new.all AV.one = true) (hm : 0 < m) (hes : 0 < es)
    (hlim : (n + m) * bytes ≤ 140737488355328 ∧ n + m ≤ 9223372036854775807) (hnl : new.length = m * es)
    (k : ∀ x' H', OutS H' H.next es (n + m) (l ++ new) x' → H.next ≤ H'.next → (∀ b, b < H.next → (∀ off es' n' lo ex, x ≠ .slc b off es' n' lo ex) → H'.get b = H.get b) → K ⟨updO tm d x', H'⟩) :
    after K tm d (aappend H es bytes x y) := by
  unfold aappend
  rw [hsrc]
  simp only
  rw [if_neg (by rw [hone]; simp; omega)]
  rcases hO with ⟨rfl, rfl, rfl⟩ | ⟨b, h1, h2, rfl, h3, h4⟩
  · simp only
    rw [if_neg (by omega), if_pos (by rw [Nat.zero_add] at hlim; exact hlim)]
    simp only [after]
    refine k _ _ (.inr ⟨H.next, Nat.le_refl _, by rw [new_next]; omega, by rw [Nat.zero_add], by rw [new_get, if_pos rfl]; simp, by rw [Nat.zero_add]; simpa using hnl⟩) (Nat.le_succ _) fun b hb _ => ?_
    rw [new_get, if_neg (by omega)]
  · simp only [h3]
    rw [if_pos ⟨trivial, by omega⟩, if_neg (by omega), if_neg (by omega), if_pos hlim, if_neg (by simp), if_pos ⟨trivial, h4⟩]
    simp only [after]
    refine k _ _ (.inr ⟨H.next, Nat.le_refl _, by rw [new_next]; exact Nat.lt_succ_self _, rfl, by rw [new_get]; exact if_pos rfl, by rw [List.length_append, h4, hnl, Nat.add_mul]⟩) (Nat.le_succ _) fun b' hb hne => ?_
    have : b' ≠ b := fun hh => hne 0 es n n false (by rw [hh])
    rw [new_get, if_neg (show ¬ b' = (H.kill b).next from (show ¬ b' = H.next by omega)), kill_get, if_neg this]

/-- A level's row in an own block of a range. -/
def VO (H : AHeap) (lo hi : Nat) (vars : List (Int × Int)) (y : AV) : Prop := (vars.length = 0 ∧ y = nils) ∨ ∃ b, lo ≤ b ∧ b < hi ∧ y = .slc b 0 2 vars.length vars.length false ∧ H.get b = some (.cells (varsC vars))
def LvsO (H : AHeap) (lo hi : Nat) : List Lv → List AV → Prop
  | [], l => l = []
  | v :: r, l => ∃ y l', l = aint v.n :: y :: l' ∧ VO H lo hi v.vars y ∧ LvsO H lo hi r l'
def LvO (H : AHeap) (lo hi : Nat) (lv : List Lv) (x : AV) : Prop := (lv = [] ∧ x = nils) ∨ ∃ b l, lo ≤ b ∧ b < hi ∧ x = .slc b 0 2 lv.length lv.length false ∧ H.get b = some (.cells l) ∧ LvsO H lo hi lv l

theorem VO.frame {H G : AHeap} {lo hi lo' hi' : Nat} {v : List (Int × Int)} {y : AV} (h : VO H lo hi v y) (h1 : lo' ≤ lo) (h2 : hi ≤ hi') (hf : ∀ b, lo ≤ b → b < hi → G.get b = H.get b) : VO G lo' hi' v y := by
  rcases h with h | ⟨b, g1, g2, g3, g4⟩
  · exact .inl h
  · exact .inr ⟨b, by omega, by omega, g3, by rw [hf b g1 g2]; exact g4⟩
theorem LvsO.frame {H G : AHeap} {lo hi lo' hi' : Nat} (h1 : lo' ≤ lo) (h2 : hi ≤ hi') (hf : ∀ b, lo ≤ b → b < hi → G.get b = H.get b) : ∀ {lv : List Lv} {l : List AV}, LvsO H lo hi lv l → LvsO G lo' hi' lv l
  | [], l, h => h
  | v :: r, l, h => by
    simp only [LvsO] at h ⊢
    obtain ⟨y, l', rfl, q1, q2⟩ := h
    exact ⟨y, l', rfl, q1.frame h1 h2 hf, q2.frame h1 h2 hf⟩
theorem LvO.frame {H G : AHeap} {lo hi : Nat} {lv : List Lv} {x : AV} (h : LvO H lo hi lv x) (hf : ∀ b, lo ≤ b → b < hi → G.get b = H.get b) : LvO G lo hi lv x := by
  rcases h with h | ⟨b, l, g1, g2, g3, g4, g5⟩
  · exact .inl h
  · exact .inr ⟨b, l, g1, g2, g3, by rw [hf b g1 g2]; exact g4, g5.frame (Nat.le_refl _) (Nat.le_refl _) hf⟩
theorem LvO.one {H : AHeap} {lo hi : Nat} {lv : List Lv} {x : AV} (h : LvO H lo hi lv x) : x.one = true := by
  rcases h with ⟨_, rfl⟩ | ⟨b, l, _, _, rfl, _⟩ <;> rfl
theorem LvO.cells {H : AHeap} {lo hi : Nat} {lv : List Lv} {x : AV} (h : LvO H lo hi lv x) : x.acells = [x] := by
  rcases h with ⟨_, rfl⟩ | ⟨b, l, _, _, rfl, _⟩ <;> rfl
theorem LvsO.snoc {H : AHeap} {lo hi : Nat} {v : Lv} {y : AV} (hy : VO H lo hi v.vars y) : ∀ {lv : List Lv} {l : List AV}, LvsO H lo hi lv l → LvsO H lo hi (lv ++ [v]) (l ++ [aint v.n, y])
  | [], l, h => by simp only [LvsO] at h; subst h; exact ⟨y, [], rfl, hy, rfl⟩
  | v0 :: r, l, h => by
    simp only [LvsO] at h
    obtain ⟨z, l', rfl, q1, q2⟩ := h
    exact ⟨z, l' ++ [aint v.n, y], rfl, q1, LvsO.snoc hy q2⟩
theorem LvsO.len {H : AHeap} {lo hi : Nat} : ∀ {lv : List Lv} {l : List AV}, LvsO H lo hi lv l → l.length = lv.length * 2
  | [], l, h => by simp only [LvsO] at h; subst h; rfl
  | v0 :: r, l, h => by
    simp only [LvsO] at h
    obtain ⟨z, l', rfl, q1, q2⟩ := h
    have := q2.len
    simp; omega

theorem VO.frz {H : AHeap} {lo hi N : Nat} {v : List (Int × Int)} {y : AV} (h : VO H lo hi v y) (hN : N ≤ lo) : ∃ z, FrzN N H y z ∧ SlV v z := by
  rcases h with ⟨h0, rfl⟩ | ⟨b, h1, h2, rfl, h3⟩
  · exact ⟨nils, .keep _ (.v _), SlV.of (.inl ⟨h0, rfl⟩)⟩
  · refine ⟨.ro v.length v.length false (varsC v), .slc b 0 2 _ _ _ _ _ h3 (by omega) (by omega) (fun i x y hx hy => ?_), SlV.of (.inr ⟨_, _, rfl, Nat.le_refl _⟩)⟩
    rw [Nat.zero_add] at hx
    rw [hx] at hy
    injection hy with hy
    subst hy
    exact .keep _ (varsC_old _ _ _ (List.mem_of_getElem? hx))
theorem LvsO.frz {H : AHeap} {lo hi N : Nat} (hN : N ≤ lo) : ∀ {lv : List Lv} {l : List AV}, LvsO H lo hi lv l → ∃ l', l'.length = l.length ∧ (∀ (i : Nat) (x y : AV), l[i]? = some x → l'[i]? = some y → FrzN N H x y) ∧ LvsX lv l'
  | [], l, h => by simp only [LvsO] at h; subst h; exact ⟨[], rfl, fun i x y hx => by simp at hx, rfl⟩
  | v :: r, l, h => by
    simp only [LvsO] at h
    obtain ⟨y, l', rfl, q1, q2⟩ := h
    obtain ⟨z, z1, z2⟩ := q1.frz hN
    obtain ⟨m, m1, m2, m3⟩ := q2.frz hN
    refine ⟨aint v.n :: z :: m, by simp [m1], fun i x y hx hy => ?_, z, m, rfl, z2, m3⟩
    match i, hx, hy with
    | 0, hx, hy => simp at hx hy; subst hx hy; exact .keep _ (.v _)
    | 1, hx, hy => simp at hx hy; subst hx hy; exact z1
    | i + 2, hx, hy => exact m2 i x y (by simpa using hx) (by simpa using hy)
theorem LvO.frz {H : AHeap} {lo hi N : Nat} {lv : List Lv} {x : AV} (h : LvO H lo hi lv x) (hN : N ≤ lo) : ∃ z, FrzN N H x z ∧ SlL lv z := by
  rcases h with ⟨rfl, rfl⟩ | ⟨b, l, h1, h2, rfl, h3, h4⟩
  · exact ⟨nils, .keep _ (.v _), sll_nil⟩
  · obtain ⟨l', g1, g2, g3⟩ := h4.frz hN
    refine ⟨.ro lv.length lv.length false l', .slc b 0 2 _ _ _ _ _ h3 (by omega) (by omega) (fun i x y hx hy => ?_), SlL.of g3 (.inr ⟨_, _, rfl, Nat.le_refl _⟩)⟩
    rw [Nat.zero_add] at hx
    exact g2 i x y hx hy
theorem OutS.high {H : AHeap} {base es n : Nat} {l : List AV} {x : AV} (h : OutS H base es n l x) {b : Nat} (hb : H.next ≤ b) : ∀ off es' n' lo ex, x ≠ .slc b off es' n' lo ex := by
  intro off es' n' lo ex hx
  rcases h with ⟨_, _, rfl⟩ | ⟨b0, g1, g2, rfl, g3⟩
  · cases hx
  · injection hx with hx; omega
theorem OutS.keepLow {H H' : AHeap} {base es n : Nat} {l : List AV} {x : AV} (h : OutS H base es n l x) (hn : H.next ≤ H'.next) (hk : ∀ b, b < H.next → H'.get b = H.get b) : OutS H' base es n l x := by
  rcases h with h | ⟨b, h1, h2, h3, h4, h5⟩
  · exact .inl h
  · exact .inr ⟨b, h1, by omega, h3, by rw [hk b h2]; exact h4, h5⟩
theorem lvo_of {H : AHeap} {base lo : Nat} {lv : List Lv} {x : AV} {l : List AV} (hO : OutS H base 2 lv.length l x) (hl : lo ≤ base ∧ base ≤ H.next) (hL : LvsO H lo base lv l) : LvO H lo H.next lv x := by
  rcases hO with ⟨h0, rfl, rfl⟩ | ⟨b, g1, g2, g3, g4, g5⟩
  · exact .inl ⟨List.length_eq_zero_iff.1 h0, rfl⟩
  · exact .inr ⟨b, l, by omega, g2, g3, g4, hL.frame (Nat.le_refl _) (by omega) fun b _ _ => rfl⟩
theorem VO.one {H : AHeap} {lo hi : Nat} {v : List (Int × Int)} {y : AV} (h : VO H lo hi v y) : y.one = true := by
  rcases h with ⟨_, rfl⟩ | ⟨b, _, _, rfl, _⟩ <;> rfl
theorem VO.cells {H : AHeap} {lo hi : Nat} {v : List (Int × Int)} {y : AV} (h : VO H lo hi v y) : y.acells = [y] := by
  rcases h with ⟨_, rfl⟩ | ⟨b, _, _, rfl, _⟩ <;> rfl
theorem app_vars {K : ASt → Prop} {tm : Nat → AV} {d : Option Nat} {H : AHeap} {vars : List (Int × Int)} {vx : AV} {vs : List AV} (h1 : SlR vars.length vx vs) (h2 : VarsR vars vs) (hn : vars.length * 16 ≤ 140737488351232)
    (k : ∀ y G1, VO G1 H.next G1.next vars y → H.next ≤ G1.next → (∀ b, b < H.next → G1.get b = H.get b) → K ⟨updO tm d y, G1⟩) : after K tm d (aappend H 2 16 (.v (.slice none 0 0)) vx) := by
  have hs := h1.src2 h2 H
  by_cases h0 : vars.length = 0
  · have hv : vars = [] := List.length_eq_zero_iff.1 h0
    subst hv
    refine OutS.step0 (base := 0) .nil hs (by omega) (k _ _ (.inl ⟨rfl, rfl⟩) (Nat.le_refl _) fun b _ => rfl)
  · refine OutS.stepN (base := 0) .nil hs (by rw [varsC_one]) (by omega) (by omega) ⟨by omega, by omega⟩ (varsC_length _) fun x' H' r1 r2 r3 => ?_
    rw [Nat.zero_add, List.nil_append] at r1
    refine k _ _ ?_ r2 fun b hb => r3 b hb fun _ _ _ _ _ hh => by cases hh
    rcases r1 with ⟨q, _⟩ | ⟨b, g1, g2, g3, g4, g5⟩
    · exact absurd q h0
    · exact .inr ⟨b, g1, g2, g3, g4⟩


set_option maxRecDepth 100000 in
theorem clean_ok : ∀ t, Tm.All TmB t → ∀ (cells : List AV), TmP t cells → ∀ (H : AHeap), SCall Try.prog 32 [.agg cells] H fun x H' => (∃ c, x = .agg c ∧ TmP (cleanT t) c) ∧ H' = H := by
  refine Tm.rule fun f n hid s lv ks ih ha cells hT H => ?_
  have hT' := hT
  have hTc := hT.1
  obtain ⟨lx, kx, ls, cs, rfl, hl1, hl2, hk1, hk2⟩ := hTc.six
  simp only [Tm.All, Tm.form, Tm.n, Tm.hid, Tm.name, Tm.lv, Tm.kids] at *
  obtain ⟨hTB, a5⟩ := ha
  have hTB' := hTB
  simp only [TmB, Tm.form, Tm.n, Tm.name, Tm.lv, Tm.kids] at hTB'
  obtain ⟨_, _, b1, b2, b3, b4⟩ := hTB'
  have e1 : ¬ H.next = H.next + 1 := by omega
  have e2 : ¬ H.next + 1 = H.next := by omega
  have e3 : ¬ H.next = H.next + 1 + 1 := by omega
  have e4 : ¬ H.next + 1 = H.next + 1 + 1 := by omega
  have e5 : ¬ H.next + 1 + 1 = H.next := by omega
  have e6 : ¬ H.next + 1 + 1 = H.next + 1 := by omega
  have p1 := hl1.one
  have p2 := hl1.cells
  have p3 := hk1.one
  have p4 := hk1.cells
  have kal : ∀ G, alen G .slice kx = some ks.length := fun G => hk1.alen G
  have lal : ∀ G, alen G .slice lx = some lv.length := fun G => hl1.alen G
  have hkxo : Old 0 kx := hT'.2 kx (by simp)
  have hlb : ∀ l ∈ lv, l.vars.length * 16 ≤ 140737488351232 := fun l hl => (b4 l hl).2.1
  refine SCall.frz (R := fun x H' => Ext H H' ∧ ∃ y, FrzN H.next H' x y ∧ ∃ c, y = .agg c ∧ TmP (cleanT (.mk f n hid s lv ks)) c) (SCall.intro mixed cf32 ?_) (fun _ _ x H' ⟨h1, y, h2, h3⟩ _ => ⟨h1, y, h2, h3⟩)
  have hbt : ∃ bn bh bs blv, bareT (.mk f n hid s lv ks) = .mk f bn bh bs blv [] := ⟨_, _, _, _, rfl⟩
  obtain ⟨bn, bh, bs, blv, hbt⟩ := hbt
  rw [cleanT, hbt]
  simp -implicitDefEqProofs only [c32, s_seq, s_ops, s_draw, s_skip, s_ret, s_exit, i_nil, i_cons, i_run, i_runG, s_condQ, c_true, c_false, aop, ev_t, ev_c, updO_at, updO_no, upd_at, t_normal, t_ret, t_exit, b_normal, b_ret, b_exit, a_some, ac_v, ac_agg, ac_ptr, ac_slc, ac_ro, ac_rop, ac_fn, new_next, set_next, argTm_zero, argTm_succ, argTm_nil, ab_bool, ab_uv, beq_self_eq_true, Option.some_beq_some, Bool.not_not, beq_iff_eq, decide_true, decide_false, Bool.not_true, Bool.not_false, afld, aload, astore, apack, alen_str, alen_ro, alen_slc, alen_nil, new_get, set_get, ite_true, ite_false, Option.map_some, Option.bind_some, ibin, isShift, Nat.reduceEqDiff, Nat.add_zero, Nat.zero_add, List.length_cons, List.length_nil, Nat.reduceAdd, Nat.reduceLeDiff, List.drop_zero, List.drop_succ_cons, List.take_succ_cons, List.take_zero, if_true, if_false, ↓reduceIte, reduceCtorEq, setL, List.set_cons_zero, List.set_cons_succ, List.all_cons, List.all_nil, one_int, one_bool, one_str, one_nil, one_ptr, one_slc, one_ro, one_rop, one_fn, Bool.and_self, Bool.and_true, true_and, and_true, and_self, Bool.false_eq_true, post_ret, post_normal, resAll, resOne, packR, Option.some.injEq, exists_eq_left', List.map_cons, List.map_nil, List.nil_append, List.append_nil, List.cons_append, d_nil, d_cons, k_nil, k_cons, g_op, g_same, g_new, avBlock, forall_eq', List.getElem?_cons_succ, List.getElem?_cons_zero, List.getElem?_nil, okind, gOk, Int.reduceBEq, Int.reduceBNe, Int.reduceLT, Int.reduceLE, Int.reduceGT, Int.reduceGE, Int.reduceNeg, Int.reduceAdd, Int.reduceSub, bne, false_imp_iff, forall_const, imp_self, implies_true, true_imp_iff, Nat.reduceMul, Nat.reduceLT, Int.reduceToNat, i_callG, p1, p2, p3, p4, e1, e2, e3, e4, e5, e6, afill]
  generalize hG : (((H.new (.cells [aint f, aint n, abl hid, .v (.string s), lx, kx])).new (.cells z6)).new (.cells z6)).set (H.next + 1 + 1) (.cells [aint f, aint 0, abl false, nostr, nils, nils]) = G
  have hE : Ext H G := by rw [← hG]; exact (((((Ext.refl H).new _).new _).new _).set (by omega) _)
  have hg0 : G.get H.next = some (.cells [aint f, aint n, abl hid, .v (.string s), lx, kx]) := by rw [← hG]; simp -implicitDefEqProofs only [go_sem, Nat.reduceEqDiff, Nat.reduceAdd, Nat.reduceLeDiff, ↓reduceIte, reduceCtorEq, Int.reduceBEq, Int.reduceBNe, Int.reduceLT, Int.reduceLE, Int.reduceGT, Int.reduceGE, Int.reduceNeg, Int.reduceAdd, Int.reduceSub, Nat.reduceMul, Nat.reduceLT, Int.reduceToNat, e1, e3]
  have hg1 : G.get (H.next + 1) = some (.cells z6) := by rw [← hG]; simp -implicitDefEqProofs only [go_sem, Nat.reduceEqDiff, Nat.reduceAdd, Nat.reduceLeDiff, ↓reduceIte, reduceCtorEq, Int.reduceBEq, Int.reduceBNe, Int.reduceLT, Int.reduceLE, Int.reduceGT, Int.reduceGE, Int.reduceNeg, Int.reduceAdd, Int.reduceSub, Nat.reduceMul, Nat.reduceLT, Int.reduceToNat, e4]
  have hg2 : G.get (H.next + 1 + 1) = some (.cells [aint f, aint 0, abl false, nostr, nils, nils]) := by rw [← hG]; simp -implicitDefEqProofs only [go_sem, Nat.reduceEqDiff, Nat.reduceAdd, Nat.reduceLeDiff, ↓reduceIte, reduceCtorEq, Int.reduceBEq, Int.reduceBNe, Int.reduceLT, Int.reduceLE, Int.reduceGT, Int.reduceGE, Int.reduceNeg, Int.reduceAdd, Int.reduceSub, Nat.reduceMul, Nat.reduceLT, Int.reduceToNat]
  have hgn : G.next = H.next + 3 := by rw [← hG]; rfl
  clear hG
  refine cutB (M := fun st => st.tm 1 = .ptr H.next 0 ∧ st.tm 2 = .ptr (H.next + 1) 0 ∧ st.tm 3 = .ptr (H.next + 1 + 1) 0 ∧ H.next + 3 ≤ st.heap.next ∧ Ext H st.heap ∧ st.heap.get H.next = some (.cells [aint f, aint n, abl hid, .v (.string s), lx, kx]) ∧ st.heap.get (H.next + 1) = some (.cells z6) ∧
    ∃ ay, LvO st.heap (H.next + 3) st.heap.next blv ay ∧ st.heap.get (H.next + 1 + 1) = some (.cells [aint f, aint bn, abl bh, .v (.string bs), ay, nils])) ?_ ?_
  · by_cases c1 : f = 1 ∨ f = 11
    · have hbt2 : bareT (.mk f n hid s lv ks) = .mk f n false zeroS [] [] := by
        simp only [bareT]
        rcases c1 with rfl | rfl <;> rfl
      rw [hbt] at hbt2
      injection hbt2 with _ k1 k2 k3 k4 _
      have k1 := k1.symm; have k2 := k2.symm; have k3 := k3.symm; have k4 := k4.symm
      subst k1 k2 k3 k4
      rcases c1 with rfl | rfl
      · simp -implicitDefEqProofs only [go_sem, Nat.reduceEqDiff, Nat.reduceAdd, Nat.reduceLeDiff, ↓reduceIte, reduceCtorEq, Int.reduceBEq, Int.reduceBNe, Int.reduceLT, Int.reduceLE, Int.reduceGT, Int.reduceGE, Int.reduceNeg, Int.reduceAdd, Int.reduceSub, Nat.reduceMul, Nat.reduceLT, Int.reduceToNat, hg0, hg1, hg2, p1, p2, p3, p4, e1, e2, e3, e4, e5, e6]
        exact ⟨by omega, hE.set (by omega) _, nils, .inl ⟨rfl, rfl⟩, rfl⟩
      · simp -implicitDefEqProofs only [go_sem, Nat.reduceEqDiff, Nat.reduceAdd, Nat.reduceLeDiff, ↓reduceIte, reduceCtorEq, Int.reduceBEq, Int.reduceBNe, Int.reduceLT, Int.reduceLE, Int.reduceGT, Int.reduceGE, Int.reduceNeg, Int.reduceAdd, Int.reduceSub, Nat.reduceMul, Nat.reduceLT, Int.reduceToNat, hg0, hg1, hg2, p1, p2, p3, p4, e1, e2, e3, e4, e5, e6]
        exact ⟨by omega, hE.set (by omega) _, nils, .inl ⟨rfl, rfl⟩, rfl⟩
    by_cases c2 : f = 3 ∨ f = 4 ∨ f = 5
    · have hbt2 : bareT (.mk f n hid s lv ks) = .mk f 0 hid zeroS [] [] := by
        simp only [bareT]
        rcases c2 with rfl | rfl | rfl <;> rfl
      rw [hbt] at hbt2
      injection hbt2 with _ k1 k2 k3 k4 _
      have k1 := k1.symm; have k2 := k2.symm; have k3 := k3.symm; have k4 := k4.symm
      subst k1 k2 k3 k4
      rcases c2 with rfl | rfl | rfl
      · simp -implicitDefEqProofs only [go_sem, Nat.reduceEqDiff, Nat.reduceAdd, Nat.reduceLeDiff, ↓reduceIte, reduceCtorEq, Int.reduceBEq, Int.reduceBNe, Int.reduceLT, Int.reduceLE, Int.reduceGT, Int.reduceGE, Int.reduceNeg, Int.reduceAdd, Int.reduceSub, Nat.reduceMul, Nat.reduceLT, Int.reduceToNat, hg0, hg1, hg2, p1, p2, p3, p4, e1, e2, e3, e4, e5, e6]
        exact ⟨by omega, hE.set (by omega) _, nils, .inl ⟨rfl, rfl⟩, rfl⟩
      · simp -implicitDefEqProofs only [go_sem, Nat.reduceEqDiff, Nat.reduceAdd, Nat.reduceLeDiff, ↓reduceIte, reduceCtorEq, Int.reduceBEq, Int.reduceBNe, Int.reduceLT, Int.reduceLE, Int.reduceGT, Int.reduceGE, Int.reduceNeg, Int.reduceAdd, Int.reduceSub, Nat.reduceMul, Nat.reduceLT, Int.reduceToNat, hg0, hg1, hg2, p1, p2, p3, p4, e1, e2, e3, e4, e5, e6]
        exact ⟨by omega, hE.set (by omega) _, nils, .inl ⟨rfl, rfl⟩, rfl⟩
      · simp -implicitDefEqProofs only [go_sem, Nat.reduceEqDiff, Nat.reduceAdd, Nat.reduceLeDiff, ↓reduceIte, reduceCtorEq, Int.reduceBEq, Int.reduceBNe, Int.reduceLT, Int.reduceLE, Int.reduceGT, Int.reduceGE, Int.reduceNeg, Int.reduceAdd, Int.reduceSub, Nat.reduceMul, Nat.reduceLT, Int.reduceToNat, hg0, hg1, hg2, p1, p2, p3, p4, e1, e2, e3, e4, e5, e6]
        exact ⟨by omega, hE.set (by omega) _, nils, .inl ⟨rfl, rfl⟩, rfl⟩
    have n1 : ¬ f = 1 := fun h => c1 (.inl h)
    have n11 : ¬ f = 11 := fun h => c1 (.inr h)
    by_cases c3 : f = 2 ∨ f = 10
    · have hbt2 : bareT (.mk f n hid s lv ks) = .mk f 0 false (if f = 10 then s else zeroS) lv [] := by
        simp only [bareT]
        rcases c3 with rfl | rfl <;> rfl
      rw [hbt] at hbt2
      injection hbt2 with _ k1 k2 k3 k4 _
      rcases c3 with rfl | rfl
      · rw [if_neg (by decide)] at k3
        have k1 := k1.symm; have k2 := k2.symm; have k3 := k3.symm; have k4 := k4.symm
        subst k1 k2 k3 k4
        simp -implicitDefEqProofs only [go_sem, Nat.reduceEqDiff, Nat.reduceAdd, Nat.reduceLeDiff, ↓reduceIte, reduceCtorEq, Int.reduceBEq, Int.reduceBNe, Int.reduceLT, Int.reduceLE, Int.reduceGT, Int.reduceGE, Int.reduceNeg, Int.reduceAdd, Int.reduceSub, Nat.reduceMul, Nat.reduceLT, Int.reduceToNat, hg0, hg1, hg2, p1, p2, p3, p4, e1, e2, e3, e4, e5, e6, lal]
        refine swp_range lv.length (fun i st => st.tm 1 = .ptr H.next 0 ∧ st.tm 2 = .ptr (H.next + 1) 0 ∧ st.tm 3 = .ptr (H.next + 1 + 1) 0 ∧ st.tm 4 = aint i ∧ Ext H st.heap ∧ st.heap.get H.next = some (.cells [aint 2, aint n, abl hid, .v (.string s), lx, kx]) ∧ st.heap.get (H.next + 1) = some (.cells z6) ∧
          ∃ base x l, H.next + 3 ≤ base ∧ base ≤ st.heap.next ∧ OutS st.heap base 2 i l x ∧ LvsO st.heap (H.next + 3) base (lv.take i) l ∧ st.heap.get (H.next + 1 + 1) = some (.cells [aint 2, aint 0, abl false, .v (.string zeroS), x, nils])) ?_ ?_ ?_
        · refine ⟨rfl, rfl, rfl, rfl, ?_, ?_, ?_, H.next + 3, _, [], Nat.le_refl _, ?_, .nil, rfl, ?_⟩
          · exact hE
          · exact hg0
          · exact hg1
          · exact Nat.le_of_eq hgn.symm
          · exact hg2
        · rintro i ⟨tm, H2⟩ hi ⟨t1, t2, t3, t4, hE2, x0, x1, base, x, l, hb1, hb2, hO, hL, x2⟩
          simp only at t1 t2 t3 t4 hE2 x0 x1 hb2 hO hL x2
          have hltI : (i : Int) < (lv.length : Int) := by omega
          have hix := hl1.aix 2 hi
          obtain ⟨vx, vs, hle, hld, hv1, hv2⟩ := hl2.at (List.getElem?_eq_getElem hi)
          have w3 : IntKind.i64.wrap ((i : Int) + 1) = (i : Int) + 1 := i64_ok _ (by omega)
          have hle0 : i * 2 + 1 ≤ ls.length := by omega
          have hle1 : i * 2 + 1 + 1 ≤ ls.length := by omega
          have hld0 : (ls.drop (i * 2)).take 1 = [aint lv[i].n] := by
            have := congrArg (List.take 1) hld
            rw [List.take_take] at this
            simpa using this
          have hld1 : (ls.drop (i * 2 + 1)).take 1 = [vx] := by
            have := congrArg (fun q => (List.drop 1 q).take 1) hld
            simp only [List.drop_take, List.drop_drop, List.take_take] at this
            simpa using this
          simp -implicitDefEqProofs only [go_sem, Nat.reduceEqDiff, Nat.reduceAdd, Nat.reduceLeDiff, ↓reduceIte, reduceCtorEq, Int.reduceBEq, Int.reduceBNe, Int.reduceLT, Int.reduceLE, Int.reduceGT, Int.reduceGE, Int.reduceNeg, Int.reduceAdd, Int.reduceSub, Nat.reduceMul, Nat.reduceLT, Int.reduceToNat, t1, t2, t3, t4, x0, x1, x2, lal, hltI, hix, hle0, hle1, hld0, hld1, hv1.one, hv1.cells, hO.one, hO.cells, p1, p2, p3, p4]
          refine app_vars hv1 hv2 (hlb _ (List.getElem_mem hi)) fun y G1 hy hn1 hG1 => ?_
          have y0 := (hG1 _ (by omega)).trans x0
          have y1 := (hG1 _ (by omega)).trans x1
          have y2 := (hG1 _ (by omega)).trans x2
          simp -implicitDefEqProofs only [go_sem, Nat.reduceEqDiff, Nat.reduceAdd, Nat.reduceLeDiff, ↓reduceIte, reduceCtorEq, Int.reduceBEq, Int.reduceBNe, Int.reduceLT, Int.reduceLE, Int.reduceGT, Int.reduceGE, Int.reduceNeg, Int.reduceAdd, Int.reduceSub, Nat.reduceMul, Nat.reduceLT, Int.reduceToNat, t1, t2, t3, t4, y0, y1, y2, lal, hltI, hix, hle0, hle1, hld0, hld1, hv1.one, hv1.cells, hO.one, hO.cells, p1, p2, p3, p4, hy.one, hy.cells, afill]
          refine ((hO.keepLow hn1 hG1).new _).stepN (m := 1) (new := [aint lv[i].n, y]) (asrc_slc (c := [aint lv[i].n, y]) (by rw [new_get]; exact if_pos rfl) (by simp)) (by simp [hy.one, one_int]) (by omega) (by omega) ⟨by omega, by omega⟩ rfl fun x' G' r6 r7 r8 => ?_
          rw [new_next] at r6 r7
          have hGo : ∀ b, b < base → G'.get b = H2.get b := fun b hb => by
            rw [r8 b (by rw [new_next]; omega) (hO.notlow hb), new_get, if_neg (by omega)]; exact hG1 b (by omega)
          have v0 := (hGo _ (by omega)).trans x0
          have v1 := (hGo _ (by omega)).trans x1
          have v2 := (hGo _ (by omega)).trans x2
          simp -implicitDefEqProofs only [go_sem, Nat.reduceEqDiff, Nat.reduceAdd, Nat.reduceLeDiff, ↓reduceIte, reduceCtorEq, Int.reduceBEq, Int.reduceBNe, Int.reduceLT, Int.reduceLE, Int.reduceGT, Int.reduceGE, Int.reduceNeg, Int.reduceAdd, Int.reduceSub, Nat.reduceMul, Nat.reduceLT, Int.reduceToNat, t1, t2, t3, t4, v0, v1, v2, w3, r6.one, r6.cells, hO.one, hO.cells, e1, e2, e3, e4, e5, e6]
          refine ⟨by simp, Ext.set ⟨by have := hE2.1; omega, fun b hb => by rw [hGo b (by omega)]; exact hE2.2 b hb⟩ (by omega) _, G1.next + 1, _, _, by omega, by omega, r6.set (r6.notlow (by omega)) _, ?_, rfl⟩
          rw [List.take_succ_eq_append_getElem hi]
          refine LvsO.snoc ?_ ?_
          · exact hy.frame (by omega) (by omega) fun b q1 q2 => by rw [set_get, if_neg (by omega), r8 b (by rw [new_next]; omega) (hO.high (by omega)), new_get, if_neg (by omega)]
          · exact hL.frame (Nat.le_refl _) (by omega) fun b q1 q2 => by rw [set_get, if_neg (by omega)]; exact hGo b q2
        · rintro ⟨tm, H2⟩ ⟨t1, t2, t3, t4, hE2, x0, x1, base, x, l, hb1, hb2, hO, hL, x2⟩
          simp only at t1 t2 t3 t4 hE2 x0 x1 hb2 hO hL x2
          rw [List.take_length] at hL
          simp -implicitDefEqProofs only [go_sem, Nat.reduceEqDiff, Nat.reduceAdd, Nat.reduceLeDiff, ↓reduceIte, reduceCtorEq, Int.reduceBEq, Int.reduceBNe, Int.reduceLT, Int.reduceLE, Int.reduceGT, Int.reduceGE, Int.reduceNeg, Int.reduceAdd, Int.reduceSub, Nat.reduceMul, Nat.reduceLT, Int.reduceToNat, t1, t2, t3, t4, x0, x1, x2, lal, Int.lt_irrefl, p1, p2, p3, p4, hO.one, hO.cells]
          exact ⟨by omega, hE2, x, lvo_of hO ⟨hb1, hb2⟩ hL, rfl⟩
      · rw [if_pos rfl] at k3
        have k1 := k1.symm; have k2 := k2.symm; have k3 := k3.symm; have k4 := k4.symm
        subst k1 k2 k3 k4
        simp -implicitDefEqProofs only [go_sem, Nat.reduceEqDiff, Nat.reduceAdd, Nat.reduceLeDiff, ↓reduceIte, reduceCtorEq, Int.reduceBEq, Int.reduceBNe, Int.reduceLT, Int.reduceLE, Int.reduceGT, Int.reduceGE, Int.reduceNeg, Int.reduceAdd, Int.reduceSub, Nat.reduceMul, Nat.reduceLT, Int.reduceToNat, hg0, hg1, hg2, p1, p2, p3, p4, e1, e2, e3, e4, e5, e6, lal]
        refine swp_range lv.length (fun i st => st.tm 1 = .ptr H.next 0 ∧ st.tm 2 = .ptr (H.next + 1) 0 ∧ st.tm 3 = .ptr (H.next + 1 + 1) 0 ∧ st.tm 4 = aint i ∧ Ext H st.heap ∧ st.heap.get H.next = some (.cells [aint 10, aint n, abl hid, .v (.string s), lx, kx]) ∧ st.heap.get (H.next + 1) = some (.cells z6) ∧
          ∃ base x l, H.next + 3 ≤ base ∧ base ≤ st.heap.next ∧ OutS st.heap base 2 i l x ∧ LvsO st.heap (H.next + 3) base (lv.take i) l ∧ st.heap.get (H.next + 1 + 1) = some (.cells [aint 10, aint 0, abl false, .v (.string s), x, nils])) ?_ ?_ ?_
        · refine ⟨rfl, rfl, rfl, rfl, ?_, ?_, ?_, H.next + 3, _, [], Nat.le_refl _, ?_, .nil, rfl, ?_⟩
          · exact hE.set (by omega) _
          · show (G.set (H.next + 1 + 1) _).get H.next = _
            rw [set_get, if_neg e3]; exact hg0
          · show (G.set (H.next + 1 + 1) _).get (H.next + 1) = _
            rw [set_get, if_neg e4]; exact hg1
          · exact Nat.le_of_eq hgn.symm
          · show (G.set (H.next + 1 + 1) _).get (H.next + 1 + 1) = _
            rw [set_get]; exact if_pos rfl
        · rintro i ⟨tm, H2⟩ hi ⟨t1, t2, t3, t4, hE2, x0, x1, base, x, l, hb1, hb2, hO, hL, x2⟩
          simp only at t1 t2 t3 t4 hE2 x0 x1 hb2 hO hL x2
          have hltI : (i : Int) < (lv.length : Int) := by omega
          have hix := hl1.aix 2 hi
          obtain ⟨vx, vs, hle, hld, hv1, hv2⟩ := hl2.at (List.getElem?_eq_getElem hi)
          have w3 : IntKind.i64.wrap ((i : Int) + 1) = (i : Int) + 1 := i64_ok _ (by omega)
          have hle0 : i * 2 + 1 ≤ ls.length := by omega
          have hle1 : i * 2 + 1 + 1 ≤ ls.length := by omega
          have hld0 : (ls.drop (i * 2)).take 1 = [aint lv[i].n] := by
            have := congrArg (List.take 1) hld
            rw [List.take_take] at this
            simpa using this
          have hld1 : (ls.drop (i * 2 + 1)).take 1 = [vx] := by
            have := congrArg (fun q => (List.drop 1 q).take 1) hld
            simp only [List.drop_take, List.drop_drop, List.take_take] at this
            simpa using this
          simp -implicitDefEqProofs only [go_sem, Nat.reduceEqDiff, Nat.reduceAdd, Nat.reduceLeDiff, ↓reduceIte, reduceCtorEq, Int.reduceBEq, Int.reduceBNe, Int.reduceLT, Int.reduceLE, Int.reduceGT, Int.reduceGE, Int.reduceNeg, Int.reduceAdd, Int.reduceSub, Nat.reduceMul, Nat.reduceLT, Int.reduceToNat, t1, t2, t3, t4, x0, x1, x2, lal, hltI, hix, hle0, hle1, hld0, hld1, hv1.one, hv1.cells, hO.one, hO.cells, p1, p2, p3, p4]
          refine app_vars hv1 hv2 (hlb _ (List.getElem_mem hi)) fun y G1 hy hn1 hG1 => ?_
          have y0 := (hG1 _ (by omega)).trans x0
          have y1 := (hG1 _ (by omega)).trans x1
          have y2 := (hG1 _ (by omega)).trans x2
          simp -implicitDefEqProofs only [go_sem, Nat.reduceEqDiff, Nat.reduceAdd, Nat.reduceLeDiff, ↓reduceIte, reduceCtorEq, Int.reduceBEq, Int.reduceBNe, Int.reduceLT, Int.reduceLE, Int.reduceGT, Int.reduceGE, Int.reduceNeg, Int.reduceAdd, Int.reduceSub, Nat.reduceMul, Nat.reduceLT, Int.reduceToNat, t1, t2, t3, t4, y0, y1, y2, lal, hltI, hix, hle0, hle1, hld0, hld1, hv1.one, hv1.cells, hO.one, hO.cells, p1, p2, p3, p4, hy.one, hy.cells, afill]
          refine ((hO.keepLow hn1 hG1).new _).stepN (m := 1) (new := [aint lv[i].n, y]) (asrc_slc (c := [aint lv[i].n, y]) (by rw [new_get]; exact if_pos rfl) (by simp)) (by simp [hy.one, one_int]) (by omega) (by omega) ⟨by omega, by omega⟩ rfl fun x' G' r6 r7 r8 => ?_
          rw [new_next] at r6 r7
          have hGo : ∀ b, b < base → G'.get b = H2.get b := fun b hb => by
            rw [r8 b (by rw [new_next]; omega) (hO.notlow hb), new_get, if_neg (by omega)]; exact hG1 b (by omega)
          have v0 := (hGo _ (by omega)).trans x0
          have v1 := (hGo _ (by omega)).trans x1
          have v2 := (hGo _ (by omega)).trans x2
          simp -implicitDefEqProofs only [go_sem, Nat.reduceEqDiff, Nat.reduceAdd, Nat.reduceLeDiff, ↓reduceIte, reduceCtorEq, Int.reduceBEq, Int.reduceBNe, Int.reduceLT, Int.reduceLE, Int.reduceGT, Int.reduceGE, Int.reduceNeg, Int.reduceAdd, Int.reduceSub, Nat.reduceMul, Nat.reduceLT, Int.reduceToNat, t1, t2, t3, t4, v0, v1, v2, w3, r6.one, r6.cells, hO.one, hO.cells, e1, e2, e3, e4, e5, e6]
          refine ⟨by simp, Ext.set ⟨by have := hE2.1; omega, fun b hb => by rw [hGo b (by omega)]; exact hE2.2 b hb⟩ (by omega) _, G1.next + 1, _, _, by omega, by omega, r6.set (r6.notlow (by omega)) _, ?_, rfl⟩
          rw [List.take_succ_eq_append_getElem hi]
          refine LvsO.snoc ?_ ?_
          · exact hy.frame (by omega) (by omega) fun b q1 q2 => by rw [set_get, if_neg (by omega), r8 b (by rw [new_next]; omega) (hO.high (by omega)), new_get, if_neg (by omega)]
          · exact hL.frame (Nat.le_refl _) (by omega) fun b q1 q2 => by rw [set_get, if_neg (by omega)]; exact hGo b q2
        · rintro ⟨tm, H2⟩ ⟨t1, t2, t3, t4, hE2, x0, x1, base, x, l, hb1, hb2, hO, hL, x2⟩
          simp only at t1 t2 t3 t4 hE2 x0 x1 hb2 hO hL x2
          rw [List.take_length] at hL
          simp -implicitDefEqProofs only [go_sem, Nat.reduceEqDiff, Nat.reduceAdd, Nat.reduceLeDiff, ↓reduceIte, reduceCtorEq, Int.reduceBEq, Int.reduceBNe, Int.reduceLT, Int.reduceLE, Int.reduceGT, Int.reduceGE, Int.reduceNeg, Int.reduceAdd, Int.reduceSub, Nat.reduceMul, Nat.reduceLT, Int.reduceToNat, t1, t2, t3, t4, x0, x1, x2, lal, Int.lt_irrefl, p1, p2, p3, p4, hO.one, hO.cells]
          exact ⟨by omega, hE2, x, lvo_of hO ⟨hb1, hb2⟩ hL, rfl⟩
    · have m2 : ¬ f = 2 := fun h => c3 (.inl h)
      have m10 : ¬ f = 10 := fun h => c3 (.inr h)
      have hbt2 : bareT (.mk f n hid s lv ks) = .mk f 0 false zeroS [] [] := by
        simp only [bareT]
        rw [if_neg c1, if_neg c2, if_neg m10, if_neg c3]
      rw [hbt] at hbt2
      injection hbt2 with _ k1 k2 k3 k4 _
      have k1 := k1.symm; have k2 := k2.symm; have k3 := k3.symm; have k4 := k4.symm
      subst k1 k2 k3 k4
      simp -implicitDefEqProofs only [go_sem, Nat.reduceEqDiff, Nat.reduceAdd, Nat.reduceLeDiff, ↓reduceIte, reduceCtorEq, Int.reduceBEq, Int.reduceBNe, Int.reduceLT, Int.reduceLE, Int.reduceGT, Int.reduceGE, Int.reduceNeg, Int.reduceAdd, Int.reduceSub, Nat.reduceMul, Nat.reduceLT, Int.reduceToNat, hg0, hg1, hg2, p1, p2, p3, p4, e1, e2, e3, e4, e5, e6, bne' n1, bne' n11, bne' m2, bne' m10, bne' (fun h => c2 (.inl h)), bne' (fun h => c2 (.inr (.inl h))), bne' (fun h => c2 (.inr (.inr h)))]
      exact ⟨by omega, hE, nils, .inl ⟨rfl, rfl⟩, rfl⟩
  rintro ⟨tm, H1⟩ ⟨t1, t2, t3, hn1, hE1, x0, x1, ay, hL, x2⟩
  simp only at t1 t2 t3 hn1 hE1 x0 x1 hL x2
  simp -implicitDefEqProofs only [go_sem, Nat.reduceEqDiff, Nat.reduceAdd, Nat.reduceLeDiff, ↓reduceIte, reduceCtorEq, Int.reduceBEq, Int.reduceBNe, Int.reduceLT, Int.reduceLE, Int.reduceGT, Int.reduceGE, Int.reduceNeg, Int.reduceAdd, Int.reduceSub, Nat.reduceMul, Nat.reduceLT, Int.reduceToNat, t1, t2, t3]
  refine swp_range ks.length (fun i st => st.tm 1 = .ptr H.next 0 ∧ st.tm 2 = .ptr (H.next + 1) 0 ∧ st.tm 3 = .ptr (H.next + 1 + 1) 0 ∧ st.tm 5 = aint i ∧ H1.next ≤ st.heap.next ∧ Ext H st.heap ∧ st.heap.get H.next = some (.cells [aint f, aint n, abl hid, .v (.string s), lx, kx]) ∧ st.heap.get (H.next + 1) = some (.cells z6) ∧
    LvO st.heap (H.next + 3) H1.next blv ay ∧ ∃ x l, OutS st.heap H1.next 6 i l x ∧ KsX (cleanK (ks.take i)) l ∧ st.heap.get (H.next + 1 + 1) = some (.cells [aint f, aint bn, abl bh, .v (.string bs), ay, x])) ?_ ?_ ?_
  · refine ⟨?_, ?_, ?_, rfl, Nat.le_refl _, hE1, x0, x1, hL, _, [], .nil, rfl, x2⟩
    all_goals simp -implicitDefEqProofs only [go_sem, Nat.reduceEqDiff, Nat.reduceAdd, Nat.reduceLeDiff, ↓reduceIte, reduceCtorEq, Int.reduceBEq, Int.reduceBNe, Int.reduceLT, Int.reduceLE, Int.reduceGT, Int.reduceGE, Int.reduceNeg, Int.reduceAdd, Int.reduceSub, Nat.reduceMul, Nat.reduceLT, Int.reduceToNat, t1, t2, t3]
  · rintro i ⟨tm, H2⟩ hi ⟨t1, t2, t3, t5, hnx, hE2, x0, x1, hL2, x, l, hO, hX, x2⟩
    simp only at t1 t2 t3 t5 hnx hE2 x0 x1 hL2 hO x2
    have hcso : ∀ y ∈ cs, Old 0 y := by
      rcases hk1 with ⟨h, _⟩ | ⟨lo, ex, rfl, _⟩
      · omega
      · cases hkxo with | ro _ _ _ _ h => exact h
    have hltI : (i : Int) < (ks.length : Int) := by omega
    have hix := hk1.aix 6 hi
    obtain ⟨kc, hkc, hle, hld⟩ := hk2.load (List.getElem?_eq_getElem hi)
    have hkm := List.getElem_mem hi
    have hkP : TmP ks[i] kc := ⟨hkc, fun y hy => hcso y (by rw [← hld] at hy; exact List.mem_of_mem_drop (List.mem_of_mem_take hy))⟩
    obtain ⟨ux, vx, hk6, q1, q2, q3, q4, q5, q6, q7, q8⟩ := hkP.six
    have w3 : IntKind.i64.wrap ((i : Int) + 1) = (i : Int) + 1 := i64_ok _ (by omega)
    simp -implicitDefEqProofs only [go_sem, Nat.reduceEqDiff, Nat.reduceAdd, Nat.reduceLeDiff, ↓reduceIte, reduceCtorEq, Int.reduceBEq, Int.reduceBNe, Int.reduceLT, Int.reduceLE, Int.reduceGT, Int.reduceGE, Int.reduceNeg, Int.reduceAdd, Int.reduceSub, Nat.reduceMul, Nat.reduceLT, Int.reduceToNat, t1, t2, t3, t5, x0, x1, x2, kal, hltI, hix, hle, hld, hL2.one, hL2.cells, hO.one, hO.cells]
    refine i_callA (fs := []) (cs := []) (fid := 32) ?_ ?_ (ih ks[i] hkm (a5.mem _ hkm) _ hkP _) ?_
    · rfl
    · simp -implicitDefEqProofs only [go_sem, Nat.reduceEqDiff, Nat.reduceAdd, Nat.reduceLeDiff, ↓reduceIte, reduceCtorEq, Int.reduceBEq, Int.reduceBNe, Int.reduceLT, Int.reduceLE, Int.reduceGT, Int.reduceGE, Int.reduceNeg, Int.reduceAdd, Int.reduceSub, Nat.reduceMul, Nat.reduceLT, Int.reduceToNat]
    rintro y H3 ⟨⟨xc, rfl, hxc⟩, hHH⟩
    have hHH := hHH.symm
    subst hHH
    obtain ⟨zl, zk, hx6, z1, z2, z3, z4, z5, z6', z7, z8⟩ := hxc.six
    subst hx6
    simp -implicitDefEqProofs only [go_sem, Nat.reduceEqDiff, Nat.reduceAdd, Nat.reduceLeDiff, ↓reduceIte, reduceCtorEq, Int.reduceBEq, Int.reduceBNe, Int.reduceLT, Int.reduceLE, Int.reduceGT, Int.reduceGE, Int.reduceNeg, Int.reduceAdd, Int.reduceSub, Nat.reduceMul, Nat.reduceLT, Int.reduceToNat, t1, t2, t3, t5, x0, x1, x2, hL2.one, hL2.cells, hO.one, hO.cells, z1, z2, z3, z4, afill]
    refine (hO.new _).step (m := 1) (new := [aint (cleanT ks[i]).form, aint (cleanT ks[i]).n, abl (cleanT ks[i]).hid, .v (.string (cleanT ks[i]).name), zl, zk]) (asrc_slc (c := [aint (cleanT ks[i]).form, aint (cleanT ks[i]).n, abl (cleanT ks[i]).hid, .v (.string (cleanT ks[i]).name), zl, zk]) (by rw [new_get]; exact if_pos rfl) (by simp)) z8 (by omega) (by omega) ⟨by omega, by omega⟩ rfl (by rw [new_next]; omega) fun x' G' r6 r7 r8 => ?_
    rw [new_next] at r7
    have hGo : ∀ b, b < H1.next → G'.get b = H2.get b := fun b hb => by
      rw [r8 b (by rw [new_next]; omega) (hO.notlow (by omega)), new_get, if_neg (by omega)]
    have x2' := (hGo _ (by omega)).trans x2
    simp -implicitDefEqProofs only [go_sem, Nat.reduceEqDiff, Nat.reduceAdd, Nat.reduceLeDiff, ↓reduceIte, reduceCtorEq, Int.reduceBEq, Int.reduceBNe, Int.reduceLT, Int.reduceLE, Int.reduceGT, Int.reduceGE, Int.reduceNeg, Int.reduceAdd, Int.reduceSub, Nat.reduceMul, Nat.reduceLT, Int.reduceToNat, t3, t5, w3, x2', hL2.one, hL2.cells, hO.one, hO.cells, r6.one, r6.cells, e1, e2, e3, e4, e5, e6]
    refine ⟨t1, t2, by simp, by omega, Ext.set ⟨by have := hE2.1; omega, fun b hb => by rw [hGo b (by omega)]; exact hE2.2 b hb⟩ (by omega) _, (hGo _ (by omega)).trans x0, (hGo _ (by omega)).trans x1, hL2.frame fun b q1 q2 => by rw [set_get, if_neg (by omega)]; exact hGo b q2, _, _, r6.set (r6.notlow (by omega)) _, ?_, rfl⟩
    rw [cleanK_take ks i hi]
    exact hX.snoc hxc
  · rintro ⟨tm, H2⟩ ⟨t1, t2, t3, t5, hnx, hE2, x0, x1, hL2, x, l, hO, hX, x2⟩
    simp only at t1 t2 t3 t5 hnx hE2 x0 x1 hL2 hO x2
    rw [List.take_length] at hX
    simp -implicitDefEqProofs only [go_sem, Nat.reduceEqDiff, Nat.reduceAdd, Nat.reduceLeDiff, ↓reduceIte, reduceCtorEq, Int.reduceBEq, Int.reduceBNe, Int.reduceLT, Int.reduceLE, Int.reduceGT, Int.reduceGE, Int.reduceNeg, Int.reduceAdd, Int.reduceSub, Nat.reduceMul, Nat.reduceLT, Int.reduceToNat, t1, t2, t3, t5, x0, x1, x2, kal, Int.lt_irrefl, hL2.one, hL2.cells, hO.one, hO.cells, e1, e2, e3, e4, e5, e6]
    have hO2 := hO.set (b' := H.next + 1) (hO.notlow (by omega)) (.cells [aint f, aint bn, abl bh, .v (.string bs), ay, x])
    have hL3 := hL2.frame (G := H2.set (H.next + 1) (.cells [aint f, aint bn, abl bh, .v (.string bs), ay, x])) fun b q1 q2 => by rw [set_get, if_neg (by omega)]
    obtain ⟨zy, z1, z2⟩ := hL3.frz (N := H.next) (by omega)
    rw [← cleanK_len ks] at hO2
    obtain ⟨z, h3, h4⟩ := hO2.frzOld (N := H.next) (by omega) (fun y hy => (hX.old y hy).mono (Nat.zero_le _))
    exact ⟨hE2.set (by omega) _, _, FrzN.six (.keep _ (.v _)) (.keep _ (.v _)) (.keep _ (.v _)) (.keep _ (.v _)) z1 h3, _, rfl, tmp_mk z2 (SlK.of hX h4)⟩
end Go.Proofs.Ytooaiddfokbffaa.E

/- The reference's Lift and Exactly. Conditions: none. -/
set_option linter.unusedVariables false
set_option linter.unusedSimpArgs false
namespace Go.Proofs.Ytooaiddfokbffaa.E
open Go Go.Proofs
attribute [local go_sem] s_seq s_ops s_draw s_block s_skip s_ret s_exit i_nil i_cons i_run i_runG s_condQ c_true c_false aop ev_t ev_c updO_at updO_no upd_at t_normal t_ret t_exit b_normal b_ret b_exit a_some ac_v ac_agg ac_ptr ac_slc ac_ro ac_rop ac_fn new_next set_next argTm_zero argTm_succ argTm_nil ab_bool ab_uv beq_self_eq_true Option.some_beq_some Bool.not_not beq_iff_eq decide_true decide_false Bool.not_true Bool.not_false afld aload astore apack alen_str alen_ro alen_slc alen_nil new_get set_get ite_true ite_false Option.map_some Option.bind_some ibin isShift Nat.add_zero Nat.zero_add List.length_cons List.length_nil List.drop_zero List.drop_succ_cons List.take_succ_cons List.take_zero if_true if_false setL List.set_cons_zero List.set_cons_succ List.all_cons List.all_nil one_int one_bool one_str one_nil one_ptr one_slc one_ro one_rop one_fn Bool.and_self Bool.and_true true_and and_true and_self Bool.false_eq_true post_ret post_normal resAll resOne packR Option.some.injEq exists_eq_left' List.map_cons List.map_nil List.nil_append List.append_nil List.cons_append d_nil d_cons k_nil k_cons g_op g_same g_new avBlock forall_eq' List.getElem?_cons_succ List.getElem?_cons_zero List.getElem?_nil okind gOk bne false_imp_iff forall_const imp_self implies_true true_imp_iff i_callG

/-! ### Plain laws -/
mutual
theorem fit_clean (c high : Int) : ∀ t, fitT c high (cleanT t) = fitT c high t
  | .mk f n h s lv ks => by
    rw [cleanT, bare_mk, fitT, fitT]
    split
    · rfl
    · exact fit_cleanK (c + 1) (high + 1) ks
theorem fit_cleanK (c high : Int) : ∀ ks, fitK c high (cleanK ks) = fitK c high ks
  | [] => rfl
  | k :: r => by
    simp only [cleanK, fitK]
    rw [fit_clean c high k]
    split
    · exact fit_cleanK _ high r
    · rfl
end
theorem clean_form (t : Tm) : (cleanT t).form = t.form := by cases t; rfl
theorem head_clean (f : Int) : ∀ ks, headIs f (cleanK ks) = headIs f ks
  | [] => rfl
  | k :: r => by simp only [cleanK, headIs, clean_form]
theorem formF_clean (r : Lv → Bool) (f n : Int) (h : Bool) (s : ByteArray) (lv : List Lv) (ks : List Tm) : formF r (cleanT (.mk f n h s lv ks)) = formF r (.mk f n h s lv ks) := by
  rw [cleanT, bare_mk]
  by_cases hk : kidsF f = (ks.length : Int)
  · rw [formF_eq r _ _ _ _ _ _ hk, formF_eq r _ _ _ _ _ _ (by rw [cleanK_len]; exact hk), head_clean]
    by_cases h1 : f = 1 ∨ f = 11
    · rw [if_pos h1, if_pos h1, if_pos h1]
    · rw [if_neg h1, if_neg h1]
      by_cases h2 : f = 2
      · subst h2; rfl
      · by_cases h10 : f = 10
        · subst h10; rfl
        · rw [if_neg h2, if_neg h2, if_neg h10, if_neg h10]
  · unfold formF
    rw [if_pos (by show kidsF f ≠ ((cleanK ks).length : Int); rw [cleanK_len]; exact hk), if_pos (by exact hk)]
mutual
theorem allF_clean (r : Lv → Bool) : ∀ t, allF (formF r) (cleanT t) = allF (formF r) t
  | .mk f n h s lv ks => by
    have h1 := formF_clean r f n h s lv ks
    rw [cleanT, bare_mk] at h1 ⊢
    simp only [allF]
    rw [h1, allF_cleanK r ks]
theorem allF_cleanK (r : Lv → Bool) : ∀ ks, allK (formF r) (cleanK ks) = allK (formF r) ks
  | [] => rfl
  | k :: q => by simp only [cleanK, allK]; rw [allF_clean r k, allF_cleanK r q]
end
theorem check_clean (r : Lv → Bool) (t : Tm) : checkF r (cleanT t) = checkF r t := by
  unfold checkF
  rw [fit_clean, allF_clean]

mutual
theorem clean_rl (fr by_ deep : Int) : ∀ t, Tm.All Vk t → cleanT (rlT (fr + deep) by_ t) = liftT fr by_ deep t
  | .mk f n h s lv ks, ha => by
    simp only [Tm.All, Vk, Tm.form, Tm.kids] at ha
    rw [rlT]
    by_cases hf : f = 1 ∧ n ≥ fr + deep
    · rw [if_pos hf, lift_var _ _ _ hf]
      obtain ⟨rfl, _⟩ := hf
      obtain rfl := ha.1 rfl
      rfl
    · rw [if_neg hf, lift_node _ _ _ hf, cleanT, clean_rlK fr by_ f deep ks 0 ha.2, bare_mk, bare_mk]
theorem clean_rlK (fr by_ f deep : Int) : ∀ (ks : List Tm) (i : Nat), Tm.AllL Vk ks → cleanK (rlK (fr + deep) by_ f i ks) = liftK fr by_ f i deep ks
  | [], _, _ => rfl
  | k :: r, i, ha => by
    simp only [Tm.AllL] at ha
    simp only [rlK, cleanK, liftK]
    rw [underF_add', clean_rl fr by_ _ k ha.1, clean_rlK fr by_ f deep r (i + 1) ha.2]
end
def wholeF (t : Tm) : Tm × Int := if ¬ checkF canF t = 0 then (zeroTm, 2) else (cleanT t, 0)
theorem whole_told {x y : Tm} (h : cleanT x = cleanT y) : wholeF x = toldF 0 (cleanT y) := by
  unfold wholeF toldF
  rw [← check_clean canF x, h]
  by_cases hc : checkF canF (cleanT y) = 0
  · rw [if_neg (by simp [hc]), if_neg (by simp [hc])]
  · rw [if_pos hc, if_pos (.inr hc)]

/-! ### The code -/
set_option maxRecDepth 100000 in
theorem whole_ok (t : Tm) (ha : Tm.All TmB t) (cells : List AV) (hT : TmP t cells) (H : AHeap) : SCall Try.prog 78 [.agg cells] H fun x H' => TmE (wholeF t).1 (wholeF t).2 x ∧ H' = H := by
  have hT' := hT
  obtain ⟨lx, kx, hc6, p1, p2, p3, p4, p5, p6, p7, p8⟩ := hT.six
  subst hc6
  have main : SCall Try.prog 78 [.agg [aint t.form, aint t.n, abl t.hid, .v (.string t.name), lx, kx]] H fun x H' => TmE (wholeF t).1 (wholeF t).2 x ∧ Ext H H' := by
    refine SCall.intro mixed cf78 ?_
    have e1 : ¬ H.next = H.next + 1 := by omega
    have e2 : ¬ H.next + 1 = H.next := by omega
    simp -implicitDefEqProofs only [c78, go_sem, Nat.reduceEqDiff, Nat.reduceAdd, Nat.reduceLeDiff, ↓reduceIte, reduceCtorEq, Int.reduceBEq, Int.reduceBNe, Int.reduceLT, Int.reduceLE, Int.reduceGT, Int.reduceGE, Int.reduceNeg, Int.reduceAdd, Int.reduceSub, Nat.reduceMul, Nat.reduceLT, Int.reduceToNat, p1, p2, p3, p4, e1, e2, afill]
    refine i_callA (fs := []) (cs := []) ?_ ?_ (check2_ok canF t (tmb_fine2 ha) _ hT'.1 _) ?_
    · rfl
    · simp -implicitDefEqProofs only [go_sem, Nat.reduceEqDiff, Nat.reduceAdd, Nat.reduceLeDiff, ↓reduceIte, reduceCtorEq, Int.reduceBEq, Int.reduceBNe, Int.reduceLT, Int.reduceLE, Int.reduceGT, Int.reduceGE, Int.reduceNeg, Int.reduceAdd, Int.reduceSub, Nat.reduceMul, Nat.reduceLT, Int.reduceToNat]
    rintro x H3 ⟨rfl, rfl⟩
    rw [check_same]
    by_cases hc : checkF canF t = 0
    · rw [hc]
      simp -implicitDefEqProofs only [go_sem, Nat.reduceEqDiff, Nat.reduceAdd, Nat.reduceLeDiff, ↓reduceIte, reduceCtorEq, Int.reduceBEq, Int.reduceBNe, Int.reduceLT, Int.reduceLE, Int.reduceGT, Int.reduceGE, Int.reduceNeg, Int.reduceAdd, Int.reduceSub, Nat.reduceMul, Nat.reduceLT, Int.reduceToNat, p1, p2, p3, p4, e1, e2, afill]
      refine i_callA (fs := []) (cs := []) ?_ ?_ (clean_ok t ha _ hT' _) ?_
      · rfl
      · simp -implicitDefEqProofs only [go_sem, Nat.reduceEqDiff, Nat.reduceAdd, Nat.reduceLeDiff, ↓reduceIte, reduceCtorEq, Int.reduceBEq, Int.reduceBNe, Int.reduceLT, Int.reduceLE, Int.reduceGT, Int.reduceGE, Int.reduceNeg, Int.reduceAdd, Int.reduceSub, Nat.reduceMul, Nat.reduceLT, Int.reduceToNat]
      rintro x H3 ⟨⟨xc, rfl, hxc⟩, rfl⟩
      obtain ⟨ax, bx, hx6, k1, k2, k3, k4, _⟩ := hxc.six
      subst hx6
      simp -implicitDefEqProofs only [go_sem, Nat.reduceEqDiff, Nat.reduceAdd, Nat.reduceLeDiff, ↓reduceIte, reduceCtorEq, Int.reduceBEq, Int.reduceBNe, Int.reduceLT, Int.reduceLE, Int.reduceGT, Int.reduceGE, Int.reduceNeg, Int.reduceAdd, Int.reduceSub, Nat.reduceMul, Nat.reduceLT, Int.reduceToNat, e1, e2, k1, k2, k3, k4]
      have hw : wholeF t = (cleanT t, 0) := if_neg (by simp [hc])
      rw [hw]
      exact ⟨⟨_, rfl, hxc⟩, (((Ext.refl H).new _).new _).set (by omega) _⟩
    · simp -implicitDefEqProofs only [go_sem, Nat.reduceEqDiff, Nat.reduceAdd, Nat.reduceLeDiff, ↓reduceIte, reduceCtorEq, Int.reduceBEq, Int.reduceBNe, Int.reduceLT, Int.reduceLE, Int.reduceGT, Int.reduceGE, Int.reduceNeg, Int.reduceAdd, Int.reduceSub, Nat.reduceMul, Nat.reduceLT, Int.reduceToNat, p1, p2, p3, p4, e1, e2, afill, bne' hc]
      exact ⟨⟨z6, by simp [wholeF, hc], by simp [wholeF, hc]; exact tmp_zero⟩, (((Ext.refl H).new _).new _).set (by omega) _⟩
  exact main.frz fun _ _ x H' ⟨hx, hE⟩ _ => ⟨hE, x, .keep _ (hx.old _), hx⟩

end Go.Proofs.Ytooaiddfokbffaa.E

/- The reference's Exactly, of one term. Conditions: none. -/
set_option linter.unusedVariables false
set_option linter.unusedSimpArgs false
namespace Go.Proofs.Ytooaiddfokbffaa.E
open Go Go.Proofs
attribute [local go_sem] s_seq s_ops s_draw s_block s_skip s_ret s_exit i_nil i_cons i_run i_runG s_condQ c_true c_false aop ev_t ev_c updO_at updO_no upd_at t_normal t_ret t_exit b_normal b_ret b_exit a_some ac_v ac_agg ac_ptr ac_slc ac_ro ac_rop ac_fn new_next set_next argTm_zero argTm_succ argTm_nil ab_bool ab_uv beq_self_eq_true Option.some_beq_some Bool.not_not beq_iff_eq decide_true decide_false Bool.not_true Bool.not_false afld aload astore apack alen_str alen_ro alen_slc alen_nil new_get set_get ite_true ite_false Option.map_some Option.bind_some ibin isShift Nat.add_zero Nat.zero_add List.length_cons List.length_nil List.drop_zero List.drop_succ_cons List.take_succ_cons List.take_zero if_true if_false setL List.set_cons_zero List.set_cons_succ List.all_cons List.all_nil one_int one_bool one_str one_nil one_ptr one_slc one_ro one_rop one_fn Bool.and_self Bool.and_true true_and and_true and_self Bool.false_eq_true post_ret post_normal resAll resOne packR Option.some.injEq exists_eq_left' List.map_cons List.map_nil List.nil_append List.append_nil List.cons_append d_nil d_cons k_nil k_cons g_op g_same g_new avBlock forall_eq' List.getElem?_cons_succ List.getElem?_cons_zero List.getElem?_nil okind gOk bne false_imp_iff forall_const imp_self implies_true true_imp_iff i_callG

theorem aeqs_self (a b : Int) : aeqs [.int, .int] [aint a, aint b] [aint a, aint b] = some true := by simp [aeqs]
set_option maxRecDepth 100000 in
theorem exL_ok (l : Lv) (x y : AV) (xs ys : List AV) (h1 : SlR l.vars.length x xs) (h2 : VarsR l.vars xs) (g1 : SlR l.vars.length y ys) (g2 : VarsR l.vars ys) (hn : l.vars.length ≤ 4611686018427387904) (H : AHeap) :
    SCall Try.prog 80 [.agg [aint l.n, x], .agg [aint l.n, y]] H fun x H' => x = abl true ∧ H' = H := by
  refine SCall.val (SCall.intro mixed cf80 ?_)
  have e1 : ¬ H.next = H.next + 1 := by omega
  have e2 : ¬ H.next + 1 = H.next := by omega
  simp -implicitDefEqProofs only [c80, go_sem, Nat.reduceEqDiff, Nat.reduceAdd, Nat.reduceLeDiff, ↓reduceIte, reduceCtorEq, Int.reduceBEq, Int.reduceBNe, Int.reduceLT, Int.reduceLE, Int.reduceGT, Int.reduceGE, Int.reduceNeg, Int.reduceAdd, Int.reduceSub, Nat.reduceMul, Nat.reduceLT, Int.reduceToNat, h1.one, h1.cells, g1.one, g1.cells, e1, e2, fun H => h1.alen H, fun H => g1.alen H]
  refine swp_range l.vars.length (fun i st => st.tm 2 = .ptr H.next 0 ∧ st.tm 3 = .ptr (H.next + 1) 0 ∧ st.tm 5 = aint i ∧ Ext H st.heap ∧ st.heap.get H.next = some (.cells [aint l.n, x]) ∧ st.heap.get (H.next + 1) = some (.cells [aint l.n, y])) ?_ ?_ ?_
  · exact ⟨rfl, rfl, rfl, ((Ext.refl H).new _).new _, by simp -implicitDefEqProofs only [go_sem, Nat.reduceEqDiff, Nat.reduceAdd, Nat.reduceLeDiff, ↓reduceIte, reduceCtorEq, Int.reduceBEq, Int.reduceBNe, Int.reduceLT, Int.reduceLE, Int.reduceGT, Int.reduceGE, Int.reduceNeg, Int.reduceAdd, Int.reduceSub, Nat.reduceMul, Nat.reduceLT, Int.reduceToNat, e1], by simp -implicitDefEqProofs only [go_sem, Nat.reduceEqDiff, Nat.reduceAdd, Nat.reduceLeDiff, ↓reduceIte, reduceCtorEq, Int.reduceBEq, Int.reduceBNe, Int.reduceLT, Int.reduceLE, Int.reduceGT, Int.reduceGE, Int.reduceNeg, Int.reduceAdd, Int.reduceSub, Nat.reduceMul, Nat.reduceLT, Int.reduceToNat]⟩
  · rintro i ⟨tm, H2⟩ hi ⟨t2, t3, t5, hE, hg0, hg1⟩
    simp only at t2 t3 t5 hE hg0 hg1
    have hltI : (i : Int) < (l.vars.length : Int) := by omega
    have hix := h1.aix 2 hi
    have hix' := g1.aix 2 hi
    obtain ⟨hle, hld⟩ := h2.at hi
    obtain ⟨hle', hld'⟩ := g2.at hi
    have w3 : IntKind.i64.wrap ((i : Int) + 1) = (i : Int) + 1 := i64_ok _ (by omega)
    simp -implicitDefEqProofs only [go_sem, Nat.reduceEqDiff, Nat.reduceAdd, Nat.reduceLeDiff, ↓reduceIte, reduceCtorEq, Int.reduceBEq, Int.reduceBNe, Int.reduceLT, Int.reduceLE, Int.reduceGT, Int.reduceGE, Int.reduceNeg, Int.reduceAdd, Int.reduceSub, Nat.reduceMul, Nat.reduceLT, Int.reduceToNat, t2, t3, t5, hg0, hg1, fun H => h1.alen H, hltI, hix, hix', hle, hld, hle', hld', w3, aeqs_self]
    exact ⟨by simp, hE⟩
  · rintro ⟨tm, H2⟩ ⟨t2, t3, t5, hE, hg0, hg1⟩
    simp only at t2 t3 t5 hE hg0 hg1
    simp -implicitDefEqProofs only [go_sem, Nat.reduceEqDiff, Nat.reduceAdd, Nat.reduceLeDiff, ↓reduceIte, reduceCtorEq, Int.reduceBEq, Int.reduceBNe, Int.reduceLT, Int.reduceLE, Int.reduceGT, Int.reduceGE, Int.reduceNeg, Int.reduceAdd, Int.reduceSub, Nat.reduceMul, Nat.reduceLT, Int.reduceToNat, t2, t3, t5, hg0, fun H => h1.alen H, Int.lt_irrefl]
    exact hE

set_option maxRecDepth 100000 in
theorem exact_ok : ∀ t, Tm.All TmB t → ∀ (ac bc : List AV), TmR t ac → TmR t bc → ∀ (H : AHeap), SCall Try.prog 22 [.agg ac, .agg bc] H fun x H' => x = abl true ∧ H' = H := by
  refine Tm.rule fun f n hid s lv ks ih ha ac bc hA hB H => ?_
  obtain ⟨lx, kx, ls, cs, rfl, hl1, hl2, hk1, hk2⟩ := hA.six
  obtain ⟨lx', kx', ls', cs', rfl, hl1', hl2', hk1', hk2'⟩ := hB.six
  simp only [Tm.All, TmB, Tm.form, Tm.n, Tm.hid, Tm.name, Tm.lv, Tm.kids] at *
  obtain ⟨⟨_, _, a1, a2, a3, a4⟩, a5⟩ := ha
  refine SCall.val (SCall.intro mixed cf22 ?_)
  have e1 : ¬ H.next = H.next + 1 := by omega
  have e2 : ¬ H.next + 1 = H.next := by omega
  have lal : ∀ G, alen G .slice lx = some lv.length := fun G => hl1.alen G
  have lal' : ∀ G, alen G .slice lx' = some lv.length := fun G => hl1'.alen G
  have kal : ∀ G, alen G .slice kx = some ks.length := fun G => hk1.alen G
  have kal' : ∀ G, alen G .slice kx' = some ks.length := fun G => hk1'.alen G
  simp -implicitDefEqProofs only [c22, go_sem, Nat.reduceEqDiff, Nat.reduceAdd, Nat.reduceLeDiff, ↓reduceIte, reduceCtorEq, Int.reduceBEq, Int.reduceBNe, Int.reduceLT, Int.reduceLE, Int.reduceGT, Int.reduceGE, Int.reduceNeg, Int.reduceAdd, Int.reduceSub, Nat.reduceMul, Nat.reduceLT, Int.reduceToNat, hl1.one, hl1.cells, hk1.one, hk1.cells, hl1'.one, hl1'.cells, hk1'.one, hk1'.cells, e1, e2, lal, lal', kal, kal', sbin]
  refine swp_range lv.length (fun i st => st.tm 2 = .ptr H.next 0 ∧ st.tm 3 = .ptr (H.next + 1) 0 ∧ st.tm 5 = aint i ∧ Ext H st.heap ∧ st.heap.get H.next = some (.cells [aint f, aint n, abl hid, .v (.string s), lx, kx]) ∧ st.heap.get (H.next + 1) = some (.cells [aint f, aint n, abl hid, .v (.string s), lx', kx'])) ?_ ?_ ?_
  · exact ⟨rfl, rfl, rfl, ((Ext.refl H).new _).new _, by simp -implicitDefEqProofs only [go_sem, Nat.reduceEqDiff, Nat.reduceAdd, Nat.reduceLeDiff, ↓reduceIte, reduceCtorEq, Int.reduceBEq, Int.reduceBNe, Int.reduceLT, Int.reduceLE, Int.reduceGT, Int.reduceGE, Int.reduceNeg, Int.reduceAdd, Int.reduceSub, Nat.reduceMul, Nat.reduceLT, Int.reduceToNat, e1], by simp -implicitDefEqProofs only [go_sem, Nat.reduceEqDiff, Nat.reduceAdd, Nat.reduceLeDiff, ↓reduceIte, reduceCtorEq, Int.reduceBEq, Int.reduceBNe, Int.reduceLT, Int.reduceLE, Int.reduceGT, Int.reduceGE, Int.reduceNeg, Int.reduceAdd, Int.reduceSub, Nat.reduceMul, Nat.reduceLT, Int.reduceToNat]⟩
  · rintro i ⟨tm, H2⟩ hi ⟨t2, t3, t5, hE, hg0, hg1⟩
    simp only at t2 t3 t5 hE hg0 hg1
    have hltI : (i : Int) < (lv.length : Int) := by omega
    have hix := hl1.aix 2 hi
    have hix' := hl1'.aix 2 hi
    obtain ⟨vx, vs, hle, hld, hv1, hv2⟩ := hl2.at (List.getElem?_eq_getElem hi)
    obtain ⟨wx, ws, hle', hld', hw1, hw2⟩ := hl2'.at (List.getElem?_eq_getElem hi)
    have w3 : IntKind.i64.wrap ((i : Int) + 1) = (i : Int) + 1 := i64_ok _ (by omega)
    have hb := (a4 _ (List.getElem_mem hi)).2.1
    simp -implicitDefEqProofs only [go_sem, Nat.reduceEqDiff, Nat.reduceAdd, Nat.reduceLeDiff, ↓reduceIte, reduceCtorEq, Int.reduceBEq, Int.reduceBNe, Int.reduceLT, Int.reduceLE, Int.reduceGT, Int.reduceGE, Int.reduceNeg, Int.reduceAdd, Int.reduceSub, Nat.reduceMul, Nat.reduceLT, Int.reduceToNat, t2, t3, t5, hg0, hg1, lal, hltI, hix, hix', hle, hld, hle', hld', hv1.one, hv1.cells, hw1.one, hw1.cells]
    refine i_callA (fs := []) (cs := []) (fid := 80) ?_ ?_ (exL_ok lv[i] vx wx vs ws hv1 hv2 hw1 hw2 (by omega) _) ?_
    · rfl
    · simp -implicitDefEqProofs only [go_sem, Nat.reduceEqDiff, Nat.reduceAdd, Nat.reduceLeDiff, ↓reduceIte, reduceCtorEq, Int.reduceBEq, Int.reduceBNe, Int.reduceLT, Int.reduceLE, Int.reduceGT, Int.reduceGE, Int.reduceNeg, Int.reduceAdd, Int.reduceSub, Nat.reduceMul, Nat.reduceLT, Int.reduceToNat]
    rintro x H3 ⟨rfl, rfl⟩
    simp -implicitDefEqProofs only [go_sem, Nat.reduceEqDiff, Nat.reduceAdd, Nat.reduceLeDiff, ↓reduceIte, reduceCtorEq, Int.reduceBEq, Int.reduceBNe, Int.reduceLT, Int.reduceLE, Int.reduceGT, Int.reduceGE, Int.reduceNeg, Int.reduceAdd, Int.reduceSub, Nat.reduceMul, Nat.reduceLT, Int.reduceToNat, t2, t3, t5, hg0, hg1, lal, hltI, hix, hix', hle, hld, hle', hld', hv1.one, hv1.cells, hw1.one, hw1.cells, w3]
    exact ⟨by simp, hE⟩
  · rintro ⟨tm, H2⟩ ⟨t2, t3, t5, hE, hg0, hg1⟩
    simp only at t2 t3 t5 hE hg0 hg1
    simp -implicitDefEqProofs only [go_sem, Nat.reduceEqDiff, Nat.reduceAdd, Nat.reduceLeDiff, ↓reduceIte, reduceCtorEq, Int.reduceBEq, Int.reduceBNe, Int.reduceLT, Int.reduceLE, Int.reduceGT, Int.reduceGE, Int.reduceNeg, Int.reduceAdd, Int.reduceSub, Nat.reduceMul, Nat.reduceLT, Int.reduceToNat, t2, t3, t5, hg0, lal, Int.lt_irrefl]
    refine swp_range ks.length (fun i st => st.tm 2 = .ptr H.next 0 ∧ st.tm 3 = .ptr (H.next + 1) 0 ∧ st.tm 7 = aint i ∧ Ext H st.heap ∧ st.heap.get H.next = some (.cells [aint f, aint n, abl hid, .v (.string s), lx, kx]) ∧ st.heap.get (H.next + 1) = some (.cells [aint f, aint n, abl hid, .v (.string s), lx', kx'])) ?_ ?_ ?_
    · refine ⟨?_, ?_, rfl, hE, hg0, hg1⟩
      all_goals simp -implicitDefEqProofs only [go_sem, Nat.reduceEqDiff, Nat.reduceAdd, Nat.reduceLeDiff, ↓reduceIte, reduceCtorEq, Int.reduceBEq, Int.reduceBNe, Int.reduceLT, Int.reduceLE, Int.reduceGT, Int.reduceGE, Int.reduceNeg, Int.reduceAdd, Int.reduceSub, Nat.reduceMul, Nat.reduceLT, Int.reduceToNat, t2, t3]
    · rintro i ⟨tm, H5⟩ hi ⟨t2, t3, t7, hE, hg0, hg1⟩
      simp only at t2 t3 t7 hE hg0 hg1
      have hltI : (i : Int) < (ks.length : Int) := by omega
      have hix := hk1.aix 6 hi
      have hix' := hk1'.aix 6 hi
      obtain ⟨kc, hkc, hle, hld⟩ := hk2.load (List.getElem?_eq_getElem hi)
      obtain ⟨kc', hkc', hle', hld'⟩ := hk2'.load (List.getElem?_eq_getElem hi)
      have w3 : IntKind.i64.wrap ((i : Int) + 1) = (i : Int) + 1 := i64_ok _ (by omega)
      have hkm := List.getElem_mem hi
      simp -implicitDefEqProofs only [go_sem, Nat.reduceEqDiff, Nat.reduceAdd, Nat.reduceLeDiff, ↓reduceIte, reduceCtorEq, Int.reduceBEq, Int.reduceBNe, Int.reduceLT, Int.reduceLE, Int.reduceGT, Int.reduceGE, Int.reduceNeg, Int.reduceAdd, Int.reduceSub, Nat.reduceMul, Nat.reduceLT, Int.reduceToNat, t2, t3, t7, hg0, hg1, kal, hltI, hix, hix', hle, hld, hle', hld']
      refine i_callA (fs := []) (cs := []) (fid := 22) ?_ ?_ (ih ks[i] hkm (a5.mem _ hkm) _ _ hkc hkc' _) ?_
      · rfl
      · simp -implicitDefEqProofs only [go_sem, Nat.reduceEqDiff, Nat.reduceAdd, Nat.reduceLeDiff, ↓reduceIte, reduceCtorEq, Int.reduceBEq, Int.reduceBNe, Int.reduceLT, Int.reduceLE, Int.reduceGT, Int.reduceGE, Int.reduceNeg, Int.reduceAdd, Int.reduceSub, Nat.reduceMul, Nat.reduceLT, Int.reduceToNat]
      rintro x H3 ⟨rfl, rfl⟩
      simp -implicitDefEqProofs only [go_sem, Nat.reduceEqDiff, Nat.reduceAdd, Nat.reduceLeDiff, ↓reduceIte, reduceCtorEq, Int.reduceBEq, Int.reduceBNe, Int.reduceLT, Int.reduceLE, Int.reduceGT, Int.reduceGE, Int.reduceNeg, Int.reduceAdd, Int.reduceSub, Nat.reduceMul, Nat.reduceLT, Int.reduceToNat, t2, t3, t7, hg0, hg1, kal, hltI, hix, hix', hle, hld, hle', hld', w3]
      exact ⟨by simp, hE⟩
    · rintro ⟨tm, H5⟩ ⟨t2, t3, t7, hE, hg0, hg1⟩
      simp only at t2 t3 t7 hE hg0 hg1
      simp -implicitDefEqProofs only [go_sem, Nat.reduceEqDiff, Nat.reduceAdd, Nat.reduceLeDiff, ↓reduceIte, reduceCtorEq, Int.reduceBEq, Int.reduceBNe, Int.reduceLT, Int.reduceLE, Int.reduceGT, Int.reduceGE, Int.reduceNeg, Int.reduceAdd, Int.reduceSub, Nat.reduceMul, Nat.reduceLT, Int.reduceToNat, t2, t3, t7, hg0, kal, Int.lt_irrefl]
      exact hE
end Go.Proofs.Ytooaiddfokbffaa.E

/- Levels made greater, and the greater of two, as the code does it. Conditions: none. -/
set_option linter.unusedVariables false
set_option linter.unusedSimpArgs false
namespace Go.Proofs.Ytooaiddfokbffaa.E
open Go Go.Proofs
attribute [local go_sem] s_seq s_ops s_draw s_block s_skip s_ret s_exit i_nil i_cons i_run i_runG s_condQ c_true c_false aop ev_t ev_c updO_at updO_no upd_at t_normal t_ret t_exit b_normal b_ret b_exit a_some ac_v ac_agg ac_ptr ac_slc ac_ro ac_rop ac_fn new_next set_next argTm_zero argTm_succ argTm_nil ab_bool ab_uv beq_self_eq_true Option.some_beq_some Bool.not_not beq_iff_eq decide_true decide_false Bool.not_true Bool.not_false afld aload astore apack alen_str alen_ro alen_slc alen_nil new_get set_get ite_true ite_false Option.map_some Option.bind_some ibin isShift Nat.add_zero Nat.zero_add List.length_cons List.length_nil List.drop_zero List.drop_succ_cons List.take_succ_cons List.take_zero if_true if_false setL List.set_cons_zero List.set_cons_succ List.all_cons List.all_nil one_int one_bool one_str one_nil one_ptr one_slc one_ro one_rop one_fn Bool.and_self Bool.and_true true_and and_true and_self Bool.false_eq_true post_ret post_normal resAll resOne packR Option.some.injEq exists_eq_left' List.map_cons List.map_nil List.nil_append List.append_nil List.cons_append d_nil d_cons k_nil k_cons g_op g_same g_new avBlock forall_eq' List.getElem?_cons_succ List.getElem?_cons_zero List.getElem?_nil okind gOk bne false_imp_iff forall_const imp_self implies_true true_imp_iff i_callG

/-- A level of which the row was made here is handed to a call. -/
theorem lvl_call {f : FuncId} {G : AHeap} {base : Nat} {n : Int} {vars : List (Int × Int)} {x : AV} {Q : AV → Prop} (hO : OutS G base 2 vars.length (varsC vars) x)
    (h : ∀ y cs G', SlR vars.length y cs → VarsR vars cs → SCall Try.prog f [.agg [aint n, y]] G' fun z H' => Q z ∧ H' = G') :
    SCall Try.prog f [.agg [aint n, x]] G fun z H' => Q z ∧ H'.next = G.next ∧ ∀ b, b < base → H'.get b = G.get b := by
  rcases hO with ⟨h0, _, rfl⟩ | ⟨b, g1, g2, rfl, g3, g4⟩
  · exact (h nils [] G (.inl ⟨h0, rfl⟩) (by rw [List.length_eq_zero_iff.1 h0]; trivial)).mono fun z H' ⟨q, hh⟩ => ⟨q, by rw [hh], fun b _ => by rw [hh]⟩
  · refine (SCall.gives (b := b) (l := varsC vars) g3 (.cons (.agg [aint n, .slc b 0 2 vars.length vars.length false] [aint n, .ro vars.length vars.length false (varsC vars)] rfl fun i x y hx hy => ?_) .nil) (h _ _ (G.kill b) (.inr ⟨_, _, rfl, Nat.le_refl _⟩) (varsR_self _))).mono fun z H' ⟨q, hh⟩ => ⟨q, by rw [hh]; rfl, fun b' hb' => by rw [hh, kill_get, if_neg (by omega)]⟩
    match i, hx, hy with
    | 0, hx, hy => simp at hx hy; subst hx hy; exact .keep _
    | 1, hx, hy => simp at hx hy; subst hx hy; exact .slc 0 2 _ _ _ _ (by omega) (by simp)
    | i + 2, hx, hy => simp at hx

def ToldF (l : Lv) : Lv × Int := if rightF (normF l) = true then (normF l, 0) else (lv0, 13)

set_option maxRecDepth 100000 in
theorem toldL_ok (l : Lv) (vx : AV) (vs : List AV) (h1 : SlR l.vars.length vx vs) (h2 : VarsR l.vars vs) (hn : l.vars.length ≤ 10000) (H : AHeap) :
    SCall Try.prog 182 [.agg [aint l.n, vx]] H fun x H' => LvE (ToldF l).1 (ToldF l).2 x ∧ H' = H := by
  have main : SCall Try.prog 182 [.agg [aint l.n, vx]] H fun x H' => LvE (ToldF l).1 (ToldF l).2 x ∧ Ext H H' := by
    refine SCall.intro mixed cf182 ?_
    have e1 : ¬ H.next + 1 = H.next := by omega
    have e2 : ¬ H.next = H.next + 1 := by omega
    simp -implicitDefEqProofs only [c182, go_sem, Nat.reduceEqDiff, Nat.reduceAdd, Nat.reduceLeDiff, ↓reduceIte, reduceCtorEq, Int.reduceBEq, Int.reduceBNe, Int.reduceLT, Int.reduceLE, Int.reduceGT, Int.reduceGE, Int.reduceNeg, Int.reduceAdd, Int.reduceSub, Nat.reduceMul, Nat.reduceLT, Int.reduceToNat, h1.one, h1.cells, e1, e2]
    refine i_callA (fs := []) (cs := []) ?_ ?_ (norm_ok l vx vs h1 h2 hn _) ?_
    · rfl
    · simp -implicitDefEqProofs only [go_sem, Nat.reduceEqDiff, Nat.reduceAdd, Nat.reduceLeDiff, ↓reduceIte, reduceCtorEq, Int.reduceBEq, Int.reduceBNe, Int.reduceLT, Int.reduceLE, Int.reduceGT, Int.reduceGE, Int.reduceNeg, Int.reduceAdd, Int.reduceSub, Nat.reduceMul, Nat.reduceLT, Int.reduceToNat]
    rintro x H3 ⟨⟨y, rfl, hy⟩, rfl⟩
    obtain ⟨⟨c3, q1, q2⟩, q3⟩ := id hy
    have hnl := normV_len l.vars
    simp -implicitDefEqProofs only [go_sem, Nat.reduceEqDiff, Nat.reduceAdd, Nat.reduceLeDiff, ↓reduceIte, reduceCtorEq, Int.reduceBEq, Int.reduceBNe, Int.reduceLT, Int.reduceLE, Int.reduceGT, Int.reduceGE, Int.reduceNeg, Int.reduceAdd, Int.reduceSub, Nat.reduceMul, Nat.reduceLT, Int.reduceToNat, e1, e2, q1.one, q1.cells]
    refine i_callA (fs := []) (cs := []) ?_ ?_ (right_ok (normF l) y c3 q1 q2 (by simp only [normF]; omega) _) ?_
    · rfl
    · simp -implicitDefEqProofs only [go_sem, Nat.reduceEqDiff, Nat.reduceAdd, Nat.reduceLeDiff, ↓reduceIte, reduceCtorEq, Int.reduceBEq, Int.reduceBNe, Int.reduceLT, Int.reduceLE, Int.reduceGT, Int.reduceGE, Int.reduceNeg, Int.reduceAdd, Int.reduceSub, Nat.reduceMul, Nat.reduceLT, Int.reduceToNat]
    rintro x H3 ⟨rfl, rfl⟩
    cases hr : rightF (normF l) with
    | false =>
      simp -implicitDefEqProofs only [go_sem, Nat.reduceEqDiff, Nat.reduceAdd, Nat.reduceLeDiff, ↓reduceIte, reduceCtorEq, Int.reduceBEq, Int.reduceBNe, Int.reduceLT, Int.reduceLE, Int.reduceGT, Int.reduceGE, Int.reduceNeg, Int.reduceAdd, Int.reduceSub, Nat.reduceMul, Nat.reduceLT, Int.reduceToNat, afill, e1, e2, q1.one, q1.cells]
      exact ⟨⟨nils, by simp [ToldF, hr, lv0], by simp [ToldF, hr, lv0]; exact slv_nil⟩, ((((Ext.refl H).new _).new _).set (by omega) _).set (by omega) _⟩
    | true =>
      simp -implicitDefEqProofs only [go_sem, Nat.reduceEqDiff, Nat.reduceAdd, Nat.reduceLeDiff, ↓reduceIte, reduceCtorEq, Int.reduceBEq, Int.reduceBNe, Int.reduceLT, Int.reduceLE, Int.reduceGT, Int.reduceGE, Int.reduceNeg, Int.reduceAdd, Int.reduceSub, Nat.reduceMul, Nat.reduceLT, Int.reduceToNat, e1, e2, q1.one, q1.cells]
      exact ⟨⟨y, by simp [ToldF, hr], by simp [ToldF, hr]; exact hy⟩, ((((Ext.refl H).new _).new _).set (by omega) _).set (by omega) _⟩
  exact main.frz fun _ _ x H' ⟨hx, hE⟩ _ => ⟨hE, x, .keep _ (hx.old _), hx⟩

set_option maxRecDepth 100000 in
theorem up_add (x k : Int) (hx : -4611686018427387904 ≤ x ∧ x ≤ 4611686018427387904) (hk : 0 ≤ k ∧ k ≤ 1000) (b : Nat) (H : AHeap) (hb : H.get b = some (.cells [aint k])) : SCall Try.prog 201 [aint x, .ptr b 0] H fun y H' => y = aint (x + k) ∧ H' = H := by
  refine SCall.intro mixed cf201 ?_
  have w : IntKind.i64.wrap (x + k) = x + k := i64_ok _ (by omega)
  simp -implicitDefEqProofs only [c201, go_sem, Nat.reduceEqDiff, Nat.reduceAdd, Nat.reduceLeDiff, ↓reduceIte, reduceCtorEq, Int.reduceBEq, Int.reduceBNe, Int.reduceLT, Int.reduceLE, Int.reduceGT, Int.reduceGE, Int.reduceNeg, Int.reduceAdd, Int.reduceSub, Nat.reduceMul, Nat.reduceLT, Int.reduceToNat, hb, w]

def upV (k : Int) (vars : List (Int × Int)) : List (Int × Int) := vars.map fun v => (v.1, v.2 + k)
def SucF (l : Lv) (k : Int) : Lv × Int := ToldF ⟨(normF l).n + k, upV k (normF l).vars⟩
def MaxF (a b : Lv) : Lv × Int := ToldF ⟨if (normF b).n > (normF a).n then (normF b).n else (normF a).n, joinF (normF a).vars (normF b).vars⟩

theorem norm_right {l : Lv} (h : rightF l = true) : (∀ v ∈ (normF l).vars, (0 ≤ v.1 ∧ v.1 ≤ 1000) ∧ 0 ≤ v.2 ∧ v.2 ≤ 1000) ∧ (0 ≤ (normF l).n ∧ (normF l).n ≤ 1000) ∧ (normF l).vars.length ≤ 64 := by
  simp only [rightF, Bool.and_eq_true, decide_eq_true_eq, List.all_eq_true, fineF] at h
  obtain ⟨⟨h1, h2⟩, h3⟩ := h
  have hv : ∀ v ∈ normV l.vars, v ∈ l.vars := fun v hv => (((normV_spec l.vars).2 v).1 hv).1
  have hl := normV_len l.vars
  refine ⟨fun v hv' => ?_, ?_, by simp only [normF]; omega⟩
  · have := h3 v (hv v hv'); omega
  · simp only [normF]
    have hN : normN l.n (normV l.vars) = 0 ∨ normN l.n (normV l.vars) = l.n := by
      rw [normN_eq _ _ fun v hv' => (h3 v (hv v hv')).2.1]
      unfold tidyN; split
      · exact .inl rfl
      · exact .inr rfl
    omega

set_option maxRecDepth 100000 in
theorem suc_ok (l : Lv) (k : Int) (hr : rightF l = true) (hk : 0 ≤ k ∧ k ≤ 1000) (vx : AV) (vs : List AV) (h1 : SlR l.vars.length vx vs) (h2 : VarsR l.vars vs) (H : AHeap) :
    SCall Try.prog 180 [.agg [aint l.n, vx], aint k] H fun x H' => LvE (SucF l k).1 (SucF l k).2 x ∧ H' = H := by
  obtain ⟨nr1, nr2, nr3⟩ := norm_right hr
  have hlen : l.vars.length ≤ 64 := by
    simp only [rightF, Bool.and_eq_true, decide_eq_true_eq] at hr
    exact hr.1.2
  have hNF : NormF l = (normF l, 0) := by simp [NormF, hr]
  have main : SCall Try.prog 180 [.agg [aint l.n, vx], aint k] H fun x H' => LvE (SucF l k).1 (SucF l k).2 x ∧ Ext H H' := by
    refine SCall.intro mixed cf180 ?_
    have e1 : ¬ H.next = H.next + 1 := by omega
    have e2 : ¬ H.next + 1 = H.next := by omega
    have e3 : ¬ H.next = H.next + 1 + 1 := by omega
    have e4 : ¬ H.next + 1 = H.next + 1 + 1 := by omega
    have e5 : ¬ H.next + 1 + 1 = H.next := by omega
    have e6 : ¬ H.next + 1 + 1 = H.next + 1 := by omega
    have e7 : ¬ H.next + 1 + 1 + 1 = H.next := by omega
    have e8 : ¬ H.next + 1 + 1 + 1 = H.next + 1 := by omega
    have e9 : ¬ H.next + 1 + 1 + 1 = H.next + 1 + 1 := by omega
    have e10 : ¬ H.next = H.next + 1 + 1 + 1 := by omega
    have e11 : ¬ H.next + 1 = H.next + 1 + 1 + 1 := by omega
    have e12 : ¬ H.next + 1 + 1 = H.next + 1 + 1 + 1 := by omega
    simp -implicitDefEqProofs only [c180, go_sem, Nat.reduceEqDiff, Nat.reduceAdd, Nat.reduceLeDiff, ↓reduceIte, reduceCtorEq, Int.reduceBEq, Int.reduceBNe, Int.reduceLT, Int.reduceLE, Int.reduceGT, Int.reduceGE, Int.reduceNeg, Int.reduceAdd, Int.reduceSub, Nat.reduceMul, Nat.reduceLT, Int.reduceToNat, h1.one, h1.cells, e1, e2, e3, e4, e5, e6]
    refine i_callA (fs := []) (cs := []) ?_ ?_ (Norm_ok l vx vs h1 h2 (by omega) _) ?_
    · rfl
    · simp -implicitDefEqProofs only [go_sem, Nat.reduceEqDiff, Nat.reduceAdd, Nat.reduceLeDiff, ↓reduceIte, reduceCtorEq, Int.reduceBEq, Int.reduceBNe, Int.reduceLT, Int.reduceLE, Int.reduceGT, Int.reduceGE, Int.reduceNeg, Int.reduceAdd, Int.reduceSub, Nat.reduceMul, Nat.reduceLT, Int.reduceToNat]
    rw [hNF]
    rintro x H3 ⟨⟨y, rfl, hy⟩, rfl⟩
    obtain ⟨⟨c3, q1, q2⟩, q3⟩ := id hy
    have k1 : ¬ k < 0 := by omega
    have k2 : ¬ k > 1000 := by omega
    simp -implicitDefEqProofs only [go_sem, Nat.reduceEqDiff, Nat.reduceAdd, Nat.reduceLeDiff, ↓reduceIte, reduceCtorEq, Int.reduceBEq, Int.reduceBNe, Int.reduceLT, Int.reduceLE, Int.reduceGT, Int.reduceGE, Int.reduceNeg, Int.reduceAdd, Int.reduceSub, Nat.reduceMul, Nat.reduceLT, Int.reduceToNat, q1.one, q1.cells, e1, e2, e3, e4, e5, e6, k1, k2]
    refine i_callA (fs := []) (cs := [.ptr (H.next + 1) 0]) (fid := 201) ?_ ?_ (up_add (normF l).n k (by omega) hk (H.next + 1) _ ?_) ?_
    · rfl
    · simp -implicitDefEqProofs only [go_sem, Nat.reduceEqDiff, Nat.reduceAdd, Nat.reduceLeDiff, ↓reduceIte, reduceCtorEq, Int.reduceBEq, Int.reduceBNe, Int.reduceLT, Int.reduceLE, Int.reduceGT, Int.reduceGE, Int.reduceNeg, Int.reduceAdd, Int.reduceSub, Nat.reduceMul, Nat.reduceLT, Int.reduceToNat]
    · simp -implicitDefEqProofs only [go_sem, Nat.reduceEqDiff, Nat.reduceAdd, Nat.reduceLeDiff, ↓reduceIte, reduceCtorEq, Int.reduceBEq, Int.reduceBNe, Int.reduceLT, Int.reduceLE, Int.reduceGT, Int.reduceGE, Int.reduceNeg, Int.reduceAdd, Int.reduceSub, Nat.reduceMul, Nat.reduceLT, Int.reduceToNat, e2, e4, e6]
    rintro x H3 ⟨rfl, rfl⟩
    simp -implicitDefEqProofs only [go_sem, Nat.reduceEqDiff, Nat.reduceAdd, Nat.reduceLeDiff, ↓reduceIte, reduceCtorEq, Int.reduceBEq, Int.reduceBNe, Int.reduceLT, Int.reduceLE, Int.reduceGT, Int.reduceGE, Int.reduceNeg, Int.reduceAdd, Int.reduceSub, Nat.reduceMul, Nat.reduceLT, Int.reduceToNat, q1.one, q1.cells, e1, e2, e3, e4, e5, e6, e7, e8, e9, e10, e11, e12, afill, fun H => q1.alen H]
    refine swp_range (normF l).vars.length (fun i st => st.tm 4 = .ptr (H.next + 1 + 1) 0 ∧ st.tm 7 = .fn (.func 201) [] [.ptr (H.next + 1) 0] ∧ st.tm 8 = .ptr (H.next + 1 + 1 + 1) 0 ∧ st.tm 36 = y ∧ st.tm 37 = aint (normF l).vars.length ∧ st.tm 38 = aint i ∧ H.next + 4 ≤ st.heap.next ∧ Ext H st.heap ∧
      st.heap.get (H.next + 1) = some (.cells [aint k]) ∧ st.heap.get (H.next + 1 + 1) = some (.cells [aint 0, nils]) ∧ ∃ x, OutS st.heap (H.next + 4) 2 i (varsC (upV k ((normF l).vars.take i))) x ∧ st.heap.get (H.next + 1 + 1 + 1) = some (.cells [aint ((normF l).n + k), x])) ?_ ?_ ?_
    · refine ⟨rfl, rfl, rfl, rfl, rfl, rfl, Nat.le_refl _, ?_, ?_, ?_, nils, .nil, ?_⟩
      · exact ((((((Ext.refl H).new _).new _).new _).set (by omega) _).new _).set (by omega) _
      all_goals simp -implicitDefEqProofs only [go_sem, Nat.reduceEqDiff, Nat.reduceAdd, Nat.reduceLeDiff, ↓reduceIte, reduceCtorEq, Int.reduceBEq, Int.reduceBNe, Int.reduceLT, Int.reduceLE, Int.reduceGT, Int.reduceGE, Int.reduceNeg, Int.reduceAdd, Int.reduceSub, Nat.reduceMul, Nat.reduceLT, Int.reduceToNat, e1, e2, e3, e4, e5, e6, e7, e8, e9, e10, e11, e12]
    · rintro i ⟨tm, H2⟩ hi ⟨t4, t7, t8, t36, t37, t38, hnx, hE, g1, g2, x, hO, g3⟩
      simp only at t4 t7 t8 t36 t37 t38 hnx hE g1 g2 hO g3
      have hltI : (i : Int) < ((normF l).vars.length : Int) := by omega
      have hix := q1.aix 2 hi
      obtain ⟨hle, hld⟩ := q2.at hi
      have w3 : IntKind.i64.wrap ((i : Int) + 1) = (i : Int) + 1 := i64_ok _ (by omega)
      have hvi := nr1 _ (List.getElem_mem hi)
      have m1 : ¬ H.next + 1 = H2.next := by omega
      have m2 : ¬ H.next + 1 + 1 = H2.next := by omega
      have m3 : ¬ H.next + 1 + 1 + 1 = H2.next := by omega
      have m4 : ¬ H2.next = H.next + 1 := by omega
      have m5 : ¬ H2.next = H.next + 1 + 1 := by omega
      have m6 : ¬ H2.next = H.next + 1 + 1 + 1 := by omega
      simp -implicitDefEqProofs only [go_sem, Nat.reduceEqDiff, Nat.reduceAdd, Nat.reduceLeDiff, ↓reduceIte, reduceCtorEq, Int.reduceBEq, Int.reduceBNe, Int.reduceLT, Int.reduceLE, Int.reduceGT, Int.reduceGE, Int.reduceNeg, Int.reduceAdd, Int.reduceSub, Nat.reduceMul, Nat.reduceLT, Int.reduceToNat, t4, t7, t8, t36, t37, t38, hltI, hix, hle, hld, g1, g2, g3, hO.one, hO.cells, m1, m2, m3, m4, m5, m6]
      refine i_callA (fs := []) (cs := [.ptr (H.next + 1) 0]) (fid := 201) ?_ ?_ (up_add (normF l).vars[i].2 k (by omega) hk (H.next + 1) _ ?_) ?_
      · rfl
      · simp -implicitDefEqProofs only [go_sem, Nat.reduceEqDiff, Nat.reduceAdd, Nat.reduceLeDiff, ↓reduceIte, reduceCtorEq, Int.reduceBEq, Int.reduceBNe, Int.reduceLT, Int.reduceLE, Int.reduceGT, Int.reduceGE, Int.reduceNeg, Int.reduceAdd, Int.reduceSub, Nat.reduceMul, Nat.reduceLT, Int.reduceToNat, t7]
      · simp -implicitDefEqProofs only [go_sem, Nat.reduceEqDiff, Nat.reduceAdd, Nat.reduceLeDiff, ↓reduceIte, reduceCtorEq, Int.reduceBEq, Int.reduceBNe, Int.reduceLT, Int.reduceLE, Int.reduceGT, Int.reduceGE, Int.reduceNeg, Int.reduceAdd, Int.reduceSub, Nat.reduceMul, Nat.reduceLT, Int.reduceToNat, m1, g1]
      rintro z H3 ⟨rfl, rfl⟩
      simp -implicitDefEqProofs only [go_sem, Nat.reduceEqDiff, Nat.reduceAdd, Nat.reduceLeDiff, ↓reduceIte, reduceCtorEq, Int.reduceBEq, Int.reduceBNe, Int.reduceLT, Int.reduceLE, Int.reduceGT, Int.reduceGE, Int.reduceNeg, Int.reduceAdd, Int.reduceSub, Nat.reduceMul, Nat.reduceLT, Int.reduceToNat, t4, t7, t8, t36, t37, t38, g1, g2, g3, hO.one, hO.cells, m1, m2, m3, m4, m5, m6, afill]
      refine (((hO.new _).set hO.nothere _).new _).step (m := 1) (new := [aint (normF l).vars[i].1, aint ((normF l).vars[i].2 + k)]) (asrc_slc (c := [aint (normF l).vars[i].1, aint ((normF l).vars[i].2 + k)]) (by rw [new_get]; exact if_pos rfl) (by simp)) rfl (by omega) (by omega) ⟨by omega, by omega⟩ rfl (by simp only [new_next, set_next]; omega) fun x' G' r6 r7 r8 => ?_
      simp only [new_next, set_next] at r7
      have hGo : ∀ b, b < H.next + 4 → G'.get b = H2.get b := fun b hb => by
        rw [r8 b (by simp only [new_next, set_next]; omega) (hO.notlow hb), new_get, if_neg (by simp only [new_next, set_next]; omega), set_get, if_neg (by omega), new_get, if_neg (by omega)]
      have v1 := (hGo _ (by omega)).trans g1
      have v2 := (hGo _ (by omega)).trans g2
      have v3 := (hGo _ (by omega)).trans g3
      simp -implicitDefEqProofs only [go_sem, Nat.reduceEqDiff, Nat.reduceAdd, Nat.reduceLeDiff, ↓reduceIte, reduceCtorEq, Int.reduceBEq, Int.reduceBNe, Int.reduceLT, Int.reduceLE, Int.reduceGT, Int.reduceGE, Int.reduceNeg, Int.reduceAdd, Int.reduceSub, Nat.reduceMul, Nat.reduceLT, Int.reduceToNat, t8, t38, v3, w3, r6.one, r6.cells, hO.one, hO.cells, e7, e8, e9, e10, e11, e12]
      refine ⟨t4, t7, t36, t37, by simp, by omega, Ext.set ⟨by have := hE.1; omega, fun b hb => by rw [hGo b (by omega)]; exact hE.2 b hb⟩ (by omega) _, v1, v2, x', ?_, rfl⟩
      have hv : varsC (upV k ((normF l).vars.take (i + 1))) = varsC (upV k ((normF l).vars.take i)) ++ [aint (normF l).vars[i].1, aint ((normF l).vars[i].2 + k)] := by
        rw [List.take_succ_eq_append_getElem hi, upV, upV, List.map_append, varsC_append]; rfl
      rw [hv]
      exact r6.set (r6.notlow (by omega)) _
    · rintro ⟨tm, H2⟩ ⟨t4, t7, t8, t36, t37, t38, hnx, hE, g1, g2, x, hO, g3⟩
      simp only at t4 t7 t8 t36 t37 t38 hnx hE g1 g2 hO g3
      rw [List.take_length] at hO
      have hul : (upV k (normF l).vars).length = (normF l).vars.length := by simp [upV]
      rw [← hul] at hO
      simp -implicitDefEqProofs only [go_sem, Nat.reduceEqDiff, Nat.reduceAdd, Nat.reduceLeDiff, ↓reduceIte, reduceCtorEq, Int.reduceBEq, Int.reduceBNe, Int.reduceLT, Int.reduceLE, Int.reduceGT, Int.reduceGE, Int.reduceNeg, Int.reduceAdd, Int.reduceSub, Nat.reduceMul, Nat.reduceLT, Int.reduceToNat, t4, t7, t8, t36, t37, t38, Int.lt_irrefl, g1, g2, g3, hO.one, hO.cells]
      refine i_callA (fs := []) (cs := []) (fid := 182) ?_ ?_ (lvl_call hO fun y cs G' a b => toldL_ok ⟨(normF l).n + k, upV k (normF l).vars⟩ y cs a b (by simp only; omega) G') ?_
      · rfl
      · simp -implicitDefEqProofs only [go_sem, Nat.reduceEqDiff, Nat.reduceAdd, Nat.reduceLeDiff, ↓reduceIte, reduceCtorEq, Int.reduceBEq, Int.reduceBNe, Int.reduceLT, Int.reduceLE, Int.reduceGT, Int.reduceGE, Int.reduceNeg, Int.reduceAdd, Int.reduceSub, Nat.reduceMul, Nat.reduceLT, Int.reduceToNat]
      rintro z H3 ⟨⟨y2, rfl, hy2⟩, hn3, ho3⟩
      obtain ⟨⟨c4, u1, u2⟩, u3⟩ := id hy2
      have v2 := (ho3 _ (by omega)).trans g2
      simp -implicitDefEqProofs only [go_sem, Nat.reduceEqDiff, Nat.reduceAdd, Nat.reduceLeDiff, ↓reduceIte, reduceCtorEq, Int.reduceBEq, Int.reduceBNe, Int.reduceLT, Int.reduceLE, Int.reduceGT, Int.reduceGE, Int.reduceNeg, Int.reduceAdd, Int.reduceSub, Nat.reduceMul, Nat.reduceLT, Int.reduceToNat, t4, v2, u1.one, u1.cells]
      exact ⟨⟨y2, rfl, hy2⟩, Ext.set ⟨by have := hE.1; omega, fun b hb => by rw [ho3 b (by omega)]; exact hE.2 b hb⟩ (by omega) _⟩
  exact main.frz fun _ _ x H' ⟨hx, hE⟩ _ => ⟨hE, x, .keep _ (hx.old _), hx⟩

set_option maxRecDepth 100000 in
theorem maxL_ok (a b : Lv) (hra : rightF a = true) (hrb : rightF b = true) (ax bx : AV) (ca cb : List AV) (h1 : SlR a.vars.length ax ca) (h2 : VarsR a.vars ca) (g1 : SlR b.vars.length bx cb) (g2 : VarsR b.vars cb) (H : AHeap) :
    SCall Try.prog 181 [.agg [aint a.n, ax], .agg [aint b.n, bx]] H fun x H' => LvE (MaxF a b).1 (MaxF a b).2 x ∧ H' = H := by
  obtain ⟨nr1, nr2, nr3⟩ := norm_right hra
  obtain ⟨mr1, mr2, mr3⟩ := norm_right hrb
  have hla : a.vars.length ≤ 64 := by
    simp only [rightF, Bool.and_eq_true, decide_eq_true_eq] at hra
    exact hra.1.2
  have hlb : b.vars.length ≤ 64 := by
    simp only [rightF, Bool.and_eq_true, decide_eq_true_eq] at hrb
    exact hrb.1.2
  have hNA : NormF a = (normF a, 0) := by simp [NormF, hra]
  have hNB : NormF b = (normF b, 0) := by simp [NormF, hrb]
  have main : SCall Try.prog 181 [.agg [aint a.n, ax], .agg [aint b.n, bx]] H fun x H' => LvE (MaxF a b).1 (MaxF a b).2 x ∧ Ext H H' := by
    refine SCall.intro mixed cf181 ?_
    have e1 : ¬ H.next = H.next + 1 := by omega
    have e2 : ¬ H.next + 1 = H.next := by omega
    have e3 : ¬ H.next = H.next + 1 + 1 := by omega
    have e4 : ¬ H.next + 1 = H.next + 1 + 1 := by omega
    have e5 : ¬ H.next + 1 + 1 = H.next := by omega
    have e6 : ¬ H.next + 1 + 1 = H.next + 1 := by omega
    simp -implicitDefEqProofs only [c181, go_sem, Nat.reduceEqDiff, Nat.reduceAdd, Nat.reduceLeDiff, ↓reduceIte, reduceCtorEq, Int.reduceBEq, Int.reduceBNe, Int.reduceLT, Int.reduceLE, Int.reduceGT, Int.reduceGE, Int.reduceNeg, Int.reduceAdd, Int.reduceSub, Nat.reduceMul, Nat.reduceLT, Int.reduceToNat, h1.one, h1.cells, g1.one, g1.cells, e1, e2, e3, e4, e5, e6]
    refine i_callA (fs := []) (cs := []) ?_ ?_ (Norm_ok a ax ca h1 h2 (by omega) _) ?_
    · rfl
    · simp -implicitDefEqProofs only [go_sem, Nat.reduceEqDiff, Nat.reduceAdd, Nat.reduceLeDiff, ↓reduceIte, reduceCtorEq, Int.reduceBEq, Int.reduceBNe, Int.reduceLT, Int.reduceLE, Int.reduceGT, Int.reduceGE, Int.reduceNeg, Int.reduceAdd, Int.reduceSub, Nat.reduceMul, Nat.reduceLT, Int.reduceToNat]
    rw [hNA]
    rintro x H3 ⟨⟨y, rfl, hy⟩, rfl⟩
    obtain ⟨⟨c3, q1, q2⟩, q3⟩ := id hy
    simp -implicitDefEqProofs only [go_sem, Nat.reduceEqDiff, Nat.reduceAdd, Nat.reduceLeDiff, ↓reduceIte, reduceCtorEq, Int.reduceBEq, Int.reduceBNe, Int.reduceLT, Int.reduceLE, Int.reduceGT, Int.reduceGE, Int.reduceNeg, Int.reduceAdd, Int.reduceSub, Nat.reduceMul, Nat.reduceLT, Int.reduceToNat, h1.one, h1.cells, g1.one, g1.cells, q1.one, q1.cells, e1, e2, e3, e4, e5, e6]
    refine i_callA (fs := []) (cs := []) ?_ ?_ (Norm_ok b bx cb g1 g2 (by omega) _) ?_
    · rfl
    · simp -implicitDefEqProofs only [go_sem, Nat.reduceEqDiff, Nat.reduceAdd, Nat.reduceLeDiff, ↓reduceIte, reduceCtorEq, Int.reduceBEq, Int.reduceBNe, Int.reduceLT, Int.reduceLE, Int.reduceGT, Int.reduceGE, Int.reduceNeg, Int.reduceAdd, Int.reduceSub, Nat.reduceMul, Nat.reduceLT, Int.reduceToNat]
    rw [hNB]
    rintro x H3 ⟨⟨z, rfl, hz⟩, rfl⟩
    obtain ⟨⟨c4, r1, r2⟩, r3⟩ := id hz
    have hmm : amm true (aint (normF a).n) (aint (normF b).n) = some (aint (if (normF b).n > (normF a).n then (normF b).n else (normF a).n)) := rfl
    simp -implicitDefEqProofs only [go_sem, Nat.reduceEqDiff, Nat.reduceAdd, Nat.reduceLeDiff, ↓reduceIte, reduceCtorEq, Int.reduceBEq, Int.reduceBNe, Int.reduceLT, Int.reduceLE, Int.reduceGT, Int.reduceGE, Int.reduceNeg, Int.reduceAdd, Int.reduceSub, Nat.reduceMul, Nat.reduceLT, Int.reduceToNat, h1.one, h1.cells, g1.one, g1.cells, q1.one, q1.cells, r1.one, r1.cells, hmm, e1, e2, e3, e4, e5, e6]
    refine i_callA (fs := []) (cs := []) (fid := 202) ?_ ?_ (joined_ok (normF a).vars (normF b).vars y z c3 c4 q1 q2 r1 r2 (by omega) _) ?_
    · rfl
    · simp -implicitDefEqProofs only [go_sem, Nat.reduceEqDiff, Nat.reduceAdd, Nat.reduceLeDiff, ↓reduceIte, reduceCtorEq, Int.reduceBEq, Int.reduceBNe, Int.reduceLT, Int.reduceLE, Int.reduceGT, Int.reduceGE, Int.reduceNeg, Int.reduceAdd, Int.reduceSub, Nat.reduceMul, Nat.reduceLT, Int.reduceToNat]
    rintro x H3 ⟨hx, hHH⟩
    subst hHH
    obtain ⟨⟨c5, u1, u2⟩, u3⟩ := id hx
    have hjl := joinF_len (normF a).vars (normF b).vars
    simp -implicitDefEqProofs only [go_sem, Nat.reduceEqDiff, Nat.reduceAdd, Nat.reduceLeDiff, ↓reduceIte, reduceCtorEq, Int.reduceBEq, Int.reduceBNe, Int.reduceLT, Int.reduceLE, Int.reduceGT, Int.reduceGE, Int.reduceNeg, Int.reduceAdd, Int.reduceSub, Nat.reduceMul, Nat.reduceLT, Int.reduceToNat, h1.one, h1.cells, g1.one, g1.cells, q1.one, q1.cells, r1.one, r1.cells, u1.one, u1.cells, hmm, e1, e2, e3, e4, e5, e6, afill]
    refine i_callA (fs := []) (cs := []) (fid := 182) ?_ ?_ (toldL_ok ⟨if (normF b).n > (normF a).n then (normF b).n else (normF a).n, joinF (normF a).vars (normF b).vars⟩ x c5 u1 u2 (by simp only; omega) _) ?_
    · rfl
    · simp -implicitDefEqProofs only [go_sem, Nat.reduceEqDiff, Nat.reduceAdd, Nat.reduceLeDiff, ↓reduceIte, reduceCtorEq, Int.reduceBEq, Int.reduceBNe, Int.reduceLT, Int.reduceLE, Int.reduceGT, Int.reduceGE, Int.reduceNeg, Int.reduceAdd, Int.reduceSub, Nat.reduceMul, Nat.reduceLT, Int.reduceToNat]
    rintro x H3 ⟨⟨y2, rfl, hy2⟩, rfl⟩
    obtain ⟨⟨c6, v1, v2⟩, v3⟩ := id hy2
    simp -implicitDefEqProofs only [go_sem, Nat.reduceEqDiff, Nat.reduceAdd, Nat.reduceLeDiff, ↓reduceIte, reduceCtorEq, Int.reduceBEq, Int.reduceBNe, Int.reduceLT, Int.reduceLE, Int.reduceGT, Int.reduceGE, Int.reduceNeg, Int.reduceAdd, Int.reduceSub, Nat.reduceMul, Nat.reduceLT, Int.reduceToNat, v1.one, v1.cells, e1, e2, e3, e4, e5, e6]
    exact ⟨⟨y2, rfl, hy2⟩, ((((((Ext.refl H).new _).new _).new _).set (by omega) _).set (by omega) _).set (by omega) _⟩
  exact main.frz fun _ _ x H' ⟨hx, hE⟩ _ => ⟨hE, x, .keep _ (hx.old _), hx⟩
end Go.Proofs.Ytooaiddfokbffaa.E

/- Levels put in for parameters: two ways, one answer. Conditions: none. -/
set_option linter.unusedVariables false
set_option linter.unusedSimpArgs false
namespace Go.Proofs.Ytooaiddfokbffaa.E
open Go Go.Proofs

theorem best_top : ∀ (l : List (Int × Int)) (v : Int × Int), v ∈ l → ∃ w, Best l w ∧ w.1 = v.1 ∧ v.2 ≤ w.2 := by
  intro l v hv
  by_cases h : ∃ w ∈ l, w.1 = v.1 ∧ v.2 < w.2
  · obtain ⟨w, hw, h1, h2⟩ := h
    have : ∀ (n : Nat) (v : Int × Int), v ∈ l → (l.filter fun z => decide (z.1 = v.1 ∧ v.2 < z.2)).length = n → ∃ w, Best l w ∧ w.1 = v.1 ∧ v.2 ≤ w.2 := by
      intro n
      induction n using Nat.strongRecOn with
      | _ n ih =>
        intro v hv hn
        by_cases h : ∃ w ∈ l, w.1 = v.1 ∧ v.2 < w.2
        · obtain ⟨w, hw, h1, h2⟩ := h
          have hlt : (l.filter fun z => decide (z.1 = w.1 ∧ w.2 < z.2)).length < n := by
            rw [← hn]
            have hsub : (l.filter fun z => decide (z.1 = w.1 ∧ w.2 < z.2)) = (l.filter fun z => decide (z.1 = v.1 ∧ v.2 < z.2)).filter fun z => decide (z.1 = w.1 ∧ w.2 < z.2) := by
              rw [List.filter_filter]
              refine List.filter_congr fun z _ => ?_
              by_cases hz : z.1 = w.1 ∧ w.2 < z.2
              · rw [decide_eq_true hz, decide_eq_true (show z.1 = v.1 ∧ v.2 < z.2 by omega)]; rfl
              · rw [decide_eq_false hz]; rfl
            rw [hsub]
            refine List.length_filter_lt_length_iff_exists.2 ⟨w, List.mem_filter.2 ⟨hw, decide_eq_true ⟨h1, h2⟩⟩, ?_⟩
            simp
          obtain ⟨x, hx, hx1, hx2⟩ := ih _ hlt w hw rfl
          exact ⟨x, hx, by omega, by omega⟩
        · refine ⟨v, ⟨hv, fun z hz hze => ?_⟩, rfl, Int.le_refl _⟩
          rcases Int.lt_or_le v.2 z.2 with h' | h'
          · exact absurd ⟨z, hz, hze, h'⟩ h
          · exact h'
    exact this _ v hv rfl
  · refine ⟨v, ⟨hv, fun z hz hze => ?_⟩, rfl, Int.le_refl _⟩
    rcases Int.lt_or_le v.2 z.2 with h' | h'
    · exact absurd ⟨z, hz, hze, h'⟩ h
    · exact h'

/-- Is what is added as much as a number? -/
def Ge (l : List (Int × Int)) (t : Int) : Prop := ∃ v ∈ l, v.2 ≥ t
theorem ge_best {l m : List (Int × Int)} (h : ∀ x, x ∈ m ↔ Best l x) (t : Int) : Ge m t ↔ Ge l t := by
  constructor
  · rintro ⟨v, hv, h1⟩; exact ⟨v, ((h v).1 hv).1, h1⟩
  · rintro ⟨v, hv, h1⟩
    obtain ⟨w, hw, h2, h3⟩ := best_top l v hv
    exact ⟨w, (h w).2 hw, by omega⟩
theorem ge_mono {l : List (Int × Int)} {s t : Int} (h : Ge l t) (hs : s ≤ t) : Ge l s := by
  obtain ⟨v, hv, h1⟩ := h
  exact ⟨v, hv, by omega⟩
theorem ge_app {a b : List (Int × Int)} {t : Int} : Ge (a ++ b) t ↔ Ge a t ∨ Ge b t := by
  constructor
  · rintro ⟨v, hv, h1⟩
    rcases List.mem_append.1 hv with hv | hv
    · exact .inl ⟨v, hv, h1⟩
    · exact .inr ⟨v, hv, h1⟩
  · rintro (⟨v, hv, h1⟩ | ⟨v, hv, h1⟩)
    · exact ⟨v, List.mem_append_left _ hv, h1⟩
    · exact ⟨v, List.mem_append_right _ hv, h1⟩

open Classical in
noncomputable def cn (n : Int) (l : List (Int × Int)) : Int := if Ge l n then 0 else n
theorem cn_yes {n : Int} {l : List (Int × Int)} (h : Ge l n) : cn n l = 0 := if_pos h
theorem cn_no {n : Int} {l : List (Int × Int)} (h : ¬ Ge l n) : cn n l = n := if_neg h

theorem normN_cn (n : Int) (l : List (Int × Int)) (hp : Pos l) : normN n (normV l) = cn n l := by
  have hs := (normV_spec l).2
  rw [normN_eq _ _ fun v hv => (hp v ((hs v).1 hv).1).2]
  unfold tidyN
  by_cases h : Ge l n
  · rw [cn_yes h]
    obtain ⟨v, hv, h1⟩ := (ge_best hs n).2 h
    rw [if_pos (List.any_eq_true.2 ⟨v, hv, decide_eq_true h1⟩)]
  · rw [cn_no h, if_neg]
    intro h2
    obtain ⟨v, hv, h1⟩ := List.any_eq_true.1 h2
    exact h ((ge_best hs n).1 ⟨v, hv, of_decide_eq_true h1⟩)

theorem norm_eq {a b : Lv} (ha : Pos a.vars) (hb : Pos b.vars) (h1 : cn a.n a.vars = cn b.n b.vars) (h2 : ∀ x, Best a.vars x ↔ Best b.vars x) : normF a = normF b := by
  have hv : normV a.vars = normV b.vars := sort_ext (normV_spec _).1 (normV_spec _).1 fun x => by rw [(normV_spec _).2, (normV_spec _).2, h2]
  have e1 := normN_cn a.n a.vars ha
  have e2 := normN_cn b.n b.vars hb
  unfold normF
  rw [e1, e2, h1, hv]

theorem norm_pos {l : Lv} (h : Pos l.vars) : Pos (normF l).vars := fun v hv => h v (((normV_spec l.vars).2 v).1 hv).1
theorem best_norm (l : List (Int × Int)) (x : Int × Int) : Best (normV l) x ↔ Best l x := (best_sort (normV_spec l).1).trans ((normV_spec l).2 x)

theorem norm_norm {l : Lv} (h : Pos l.vars) : normF (normF l) = normF l := by
  refine norm_eq (norm_pos h) h ?_ (best_norm l.vars)
  show cn (normN l.n (normV l.vars)) (normV l.vars) = cn l.n l.vars
  rw [normN_cn _ _ h]
  have hg := fun t => ge_best (normV_spec l.vars).2 t
  by_cases hd : Ge l.vars l.n
  · rw [cn_yes hd]
    by_cases h0 : Ge (normV l.vars) 0
    · rw [cn_yes h0]
    · rw [cn_no h0]
  · rw [cn_no hd, cn_no fun h => hd ((hg _).1 h)]

/-- What is put together. -/
theorem step_norm {r x : Lv} {a : Int} (ha : 0 ≤ a) (hr : Pos r.vars) (hx : Pos x.vars) (hrn : 0 ≤ r.n) (hxn : 0 ≤ x.n) :
    normF ⟨if cn (x.n + a) (upV a x.vars) > cn r.n r.vars then cn (x.n + a) (upV a x.vars) else cn r.n r.vars, joinF (normV r.vars) (normV (upV a x.vars))⟩ =
      normF ⟨if x.n + a > r.n ∧ (x.n > 0 ∨ x.vars = []) then x.n + a else r.n, r.vars ++ upV a x.vars⟩ := by
  have hup : Pos (upV a x.vars) := fun v hv => by
    obtain ⟨w, hw, rfl⟩ := List.mem_map.1 hv
    have := hx w hw
    exact ⟨this.1, by simp only; omega⟩
  have hj := joinF_spec (normV_spec r.vars).1 (normV_spec (upV a x.vars)).1
  have hA : ∀ z, z ∈ joinF (normV r.vars) (normV (upV a x.vars)) ↔ Best (r.vars ++ upV a x.vars) z := fun z => by
    rw [hj.2, best_best (normV_spec r.vars).2]
    have hc : ∀ (p q : List (Int × Int)) (z : Int × Int), Best (p ++ q) z ↔ Best (q ++ p) z := fun p q z => best_perm fun w => by rw [List.mem_append, List.mem_append, or_comm]
    rw [hc, best_best (normV_spec (upV a x.vars)).2, hc]
  have hpos : Pos (r.vars ++ upV a x.vars) := fun v hv => by
    rcases List.mem_append.1 hv with h | h
    · exact hr v h
    · exact hup v h
  have hpj : Pos (joinF (normV r.vars) (normV (upV a x.vars))) := fun v hv => hpos v ((hA v).1 hv).1
  refine norm_eq hpj hpos ?_ fun z => (best_sort hj.1).trans (hA z)
  simp only
  have hg : ∀ t, Ge (joinF (normV r.vars) (normV (upV a x.vars))) t ↔ Ge r.vars t ∨ Ge (upV a x.vars) t := fun t => (ge_best hA t).trans ge_app
  have hga : ∀ t, Ge (r.vars ++ upV a x.vars) t ↔ Ge r.vars t ∨ Ge (upV a x.vars) t := fun t => ge_app
  -- with x.n = 0 the number says nothing
  have hx0 : x.n = 0 → x.vars ≠ [] → Ge (upV a x.vars) (x.n + a) := fun h0 h1 => by
    cases hv : x.vars with
    | nil => exact absurd hv h1
    | cons v q =>
      have := (hx v (by rw [hv]; exact List.mem_cons_self ..)).2
      exact ⟨(v.1, v.2 + a), by simp [upV], by simp only; omega⟩
  generalize joinF (normV r.vars) (normV (upV a x.vars)) = J at *
  generalize r.vars ++ upV a x.vars = A at *
  have mono1 : ∀ s t, s ≤ t → Ge r.vars t → Ge r.vars s := fun s t h1 h2 => ge_mono h2 h1
  have mono2 : ∀ s t, s ≤ t → Ge (upV a x.vars) t → Ge (upV a x.vars) s := fun s t h1 h2 => ge_mono h2 h1
  have zero : ∀ l, cn 0 l = 0 := fun l => by unfold cn; split <;> rfl
  by_cases hc : x.n > 0 ∨ x.vars = []
  · by_cases hq : x.n + a > r.n
    · have hN : (if x.n + a > r.n ∧ (x.n > 0 ∨ x.vars = []) then x.n + a else r.n) = x.n + a := if_pos ⟨hq, hc⟩
      rw [hN]
      by_cases p2 : Ge (upV a x.vars) (x.n + a)
      · rw [cn_yes p2, cn_yes ((hga _).2 (.inr p2))]
        by_cases p1 : Ge r.vars r.n
        · rw [cn_yes p1, if_neg (by omega), zero]
        · rw [cn_no p1, if_neg (by omega), cn_yes ((hg _).2 (.inr (mono2 _ _ (by omega) p2)))]
      · rw [cn_no p2]
        have hM : (if x.n + a > cn r.n r.vars then x.n + a else cn r.n r.vars) = x.n + a := by
          rw [if_pos]
          by_cases p1 : Ge r.vars r.n
          · rw [cn_yes p1]; omega
          · rw [cn_no p1]; omega
        rw [hM]
        by_cases p3 : Ge r.vars (x.n + a)
        · rw [cn_yes ((hg _).2 (.inl p3)), cn_yes ((hga _).2 (.inl p3))]
        · rw [cn_no fun h => ((hg _).1 h).elim p3 p2, cn_no fun h => ((hga _).1 h).elim p3 p2]
    · have hN : (if x.n + a > r.n ∧ (x.n > 0 ∨ x.vars = []) then x.n + a else r.n) = r.n := if_neg fun h => hq h.1
      rw [hN]
      by_cases p1 : Ge r.vars r.n
      · rw [cn_yes p1, cn_yes ((hga _).2 (.inl p1))]
        by_cases p2 : Ge (upV a x.vars) (x.n + a)
        · rw [cn_yes p2, if_neg (by omega), zero]
        · rw [cn_no p2]
          by_cases h0 : x.n + a > 0
          · rw [if_pos h0, cn_yes ((hg _).2 (.inl (mono1 _ _ (by omega) p1)))]
          · rw [if_neg h0, zero]
      · rw [cn_no p1]
        have hM : (if cn (x.n + a) (upV a x.vars) > r.n then cn (x.n + a) (upV a x.vars) else r.n) = r.n := by
          rw [if_neg]
          by_cases p2 : Ge (upV a x.vars) (x.n + a)
          · rw [cn_yes p2]; omega
          · rw [cn_no p2]; omega
        rw [hM]
        by_cases p3 : Ge (upV a x.vars) r.n
        · rw [cn_yes ((hg _).2 (.inr p3)), cn_yes ((hga _).2 (.inr p3))]
        · rw [cn_no fun h => ((hg _).1 h).elim p1 p3, cn_no fun h => ((hga _).1 h).elim p1 p3]
  · have hN : (if x.n + a > r.n ∧ (x.n > 0 ∨ x.vars = []) then x.n + a else r.n) = r.n := if_neg fun h => hc h.2
    rw [hN]
    have p2 := hx0 (by omega) (fun h => hc (.inr h))
    rw [cn_yes p2]
    by_cases p1 : Ge r.vars r.n
    · rw [cn_yes p1, if_neg (by omega), zero, cn_yes ((hga _).2 (.inl p1))]
    · rw [cn_no p1, if_neg (by omega)]
      by_cases p3 : Ge (upV a x.vars) r.n
      · rw [cn_yes ((hg _).2 (.inr p3)), cn_yes ((hga _).2 (.inr p3))]
      · rw [cn_no fun h => ((hg _).1 h).elim p1 p3, cn_no fun h => ((hga _).1 h).elim p1 p3]
end Go.Proofs.Ytooaiddfokbffaa.E

/- Levels put in for parameters: the whole of it. Conditions: none. -/
set_option linter.unusedVariables false
set_option linter.unusedSimpArgs false
namespace Go.Proofs.Ytooaiddfokbffaa.E
open Go Go.Proofs

def KPos (l : List (Int × Int)) : Prop := ∀ v ∈ l, (0 ≤ v.1 ∧ v.1 ≤ 1000) ∧ 0 ≤ v.2
theorem KPos.pos {l : List (Int × Int)} (h : KPos l) : Pos l := fun v hv => ⟨(h v hv).1.1, (h v hv).2⟩

theorem sort_len : ∀ {b a : List (Int × Int)}, SortK a → SortK b → (∀ x ∈ a, ∃ y ∈ b, y.1 = x.1) → a.length ≤ b.length
  | [], [], _, _, _ => Nat.le_refl _
  | [], x :: a, _, _, h => by obtain ⟨y, hy, _⟩ := h x (List.mem_cons_self ..); cases hy
  | y :: b, [], _, _, _ => Nat.zero_le _
  | y :: b, x :: a, ha, hb, h => by
    have ha' := List.pairwise_cons.1 ha
    have hb' := List.pairwise_cons.1 hb
    by_cases he : x.1 = y.1
    · simp only [List.length_cons]
      have := sort_len ha'.2 hb'.2 fun z hz => by
        obtain ⟨w, hw, he2⟩ := h z (List.mem_cons_of_mem _ hz)
        have := ha'.1 z hz
        rcases List.mem_cons.1 hw with rfl | hw
        · omega
        · exact ⟨w, hw, he2⟩
      omega
    · have hxy : y.1 < x.1 := by
        obtain ⟨w, hw, he2⟩ := h x (List.mem_cons_self ..)
        rcases List.mem_cons.1 hw with rfl | hw
        · omega
        · have := hb'.1 w hw; omega
      have := sort_len ha hb'.2 fun z hz => by
        obtain ⟨w, hw, he2⟩ := h z hz
        have hz2 : y.1 < z.1 := by
          rcases List.mem_cons.1 hz with rfl | hz
          · exact hxy
          · have := ha'.1 z hz; omega
        rcases List.mem_cons.1 hw with rfl | hw
        · omega
        · exact ⟨w, hw, he2⟩
      simp only [List.length_cons] at this ⊢
      omega

def Why (l : Lv) : Prop := (l.n > 1000 ∧ ¬ Ge l.vars l.n) ∨ (normV l.vars).length > 64 ∨ Ge l.vars 1001
theorem bad_why {l : Lv} (hk : KPos l.vars) (hn : 0 ≤ l.n) : rightF (normF l) = false ↔ Why l := by
  have hs := (normV_spec l.vars).2
  have hN := normN_cn l.n l.vars hk.pos
  have hmem : ∀ v ∈ normV l.vars, (0 ≤ v.1 ∧ v.1 ≤ 1000) ∧ 0 ≤ v.2 := fun v hv => hk v ((hs v).1 hv).1
  have hR : ∀ m : Lv, rightF m = true ↔ ((0 ≤ m.n ∧ m.n ≤ 1000) ∧ m.vars.length ≤ 64) ∧ ∀ v ∈ m.vars, (0 ≤ v.1 ∧ v.1 ≤ 1000) ∧ 0 ≤ v.2 ∧ v.2 ≤ 1000 := fun m => by
    simp only [rightF, fineF, Bool.and_eq_true, decide_eq_true_eq, List.all_eq_true, ge_iff_le]
  have hn1 : (normF l).n = cn l.n l.vars := hN
  have hv1 : (normF l).vars = normV l.vars := rfl
  rw [← Bool.not_eq_true, hR, hn1, hv1]
  have hcn : cn l.n l.vars = 0 ∨ cn l.n l.vars = l.n := by
    by_cases h : Ge l.vars l.n
    · exact .inl (cn_yes h)
    · exact .inr (cn_no h)
  constructor
  · intro h
    by_cases h1 : (normV l.vars).length > 64
    · exact .inr (.inl h1)
    by_cases h2 : Ge l.vars 1001
    · exact .inr (.inr h2)
    refine .inl ?_
    by_cases h3 : l.n > 1000 ∧ ¬ Ge l.vars l.n
    · exact h3
    · exfalso
      refine h ⟨⟨?_, by omega⟩, fun v hv => ?_⟩
      · by_cases hg : Ge l.vars l.n
        · rw [cn_yes hg]; omega
        · rw [cn_no hg]
          rcases Int.lt_or_le 1000 l.n with h4 | h4
          · exact absurd ⟨h4, hg⟩ h3
          · omega
      · have := hmem v hv
        rcases Int.lt_or_le 1000 v.2 with h4 | h4
        · exact absurd ⟨v, ((hs v).1 hv).1, by omega⟩ h2
        · omega
  · rintro (⟨h1, h2⟩ | h1 | h1) ⟨⟨g1, g2⟩, g3⟩
    · rw [cn_no h2] at g1; omega
    · omega
    · obtain ⟨v, hv, h2⟩ := (ge_best hs 1001).2 h1
      have := g3 v hv
      omega
theorem why_mono {l l' : Lv} (hsub : ∀ v ∈ l.vars, v ∈ l'.vars) (hn : l.n ≤ l'.n ∨ Ge l.vars l.n) (h : Why l) : Why l' := by
  have hge : ∀ t, Ge l.vars t → Ge l'.vars t := fun t ⟨v, hv, h1⟩ => ⟨v, hsub v hv, h1⟩
  rcases h with ⟨h1, h2⟩ | h1 | h1
  · have hle := hn.resolve_right h2
    by_cases hg : Ge l'.vars l'.n
    · exact .inr (.inr (ge_mono hg (by omega)))
    · exact .inl ⟨by omega, hg⟩
  · refine .inr (.inl ?_)
    have := sort_len (normV_spec l.vars).1 (normV_spec l'.vars).1 fun x hx => by
      obtain ⟨w, hw, h2, _⟩ := best_top l'.vars x (hsub x (((normV_spec l.vars).2 x).1 hx).1)
      exact ⟨w, ((normV_spec l'.vars).2 w).2 hw, h2⟩
    omega
  · exact .inr (.inr (hge _ h1))

def argF (args : List Lv) (v : Int × Int) : Lv := args.getD v.1.toNat lv0
def subFold (args : List Lv) : List (Int × Int) → Lv → Option Lv
  | [], out => some out
  | v :: q, out => if v.1 ≥ args.length then none else if ¬ (SucF (argF args v) v.2).2 = 0 then none
      else if ¬ (MaxF out (SucF (argF args v) v.2).1).2 = 0 then none else subFold args q (MaxF out (SucF (argF args v) v.2).1).1
def refStep (x : Lv) (a : Int) (r : Lv) : Lv := ⟨if x.n + a > r.n ∧ (x.n > 0 ∨ x.vars = []) then x.n + a else r.n, r.vars ++ upV a x.vars⟩
def refFold (args : List Lv) : List (Int × Int) → Lv → Option Lv
  | [], out => some out
  | v :: q, out => if v.1 ≥ args.length then none else refFold args q (refStep (normF (argF args v)) v.2 out)
def resF (o : Option Lv) : Lv × Int := match o with | none => (lv0, 13) | some l => ToldF l

theorem told_eq {a b : Lv} (h : normF a = normF b) : ToldF a = ToldF b := by unfold ToldF; rw [h]
theorem told_bad {l : Lv} (h : rightF (normF l) = false) : ToldF l = (lv0, 13) := by unfold ToldF; rw [if_neg (by simp [h])]
theorem told_good {l : Lv} (h : rightF (normF l) = true) : ToldF l = (normF l, 0) := if_pos h

theorem arg_right {args : List Lv} (ha : ∀ l ∈ args, rightF l = true) (v : Int × Int) : rightF (argF args v) = true := by
  unfold argF
  rw [List.getD_eq_getElem?_getD]
  cases h : args[v.1.toNat]? with
  | none => rfl
  | some l => exact ha l (List.mem_of_getElem? h)

theorem refStep_ok {x r : Lv} {a : Int} (hx : rightF x = true) (ha : 0 ≤ a) (hk : KPos r.vars) (hn : 0 ≤ r.n) : KPos (refStep (normF x) a r).vars ∧ 0 ≤ (refStep (normF x) a r).n := by
  obtain ⟨n1, n2, _⟩ := norm_right hx
  refine ⟨fun v hv => ?_, ?_⟩
  · rcases List.mem_append.1 hv with h | h
    · exact hk v h
    · obtain ⟨w, hw, rfl⟩ := List.mem_map.1 h
      have := n1 w hw
      exact ⟨this.1, by simp only; omega⟩
  · simp only [refStep]; split <;> omega

theorem ref_bad {args : List Lv} (ha : ∀ l ∈ args, rightF l = true) : ∀ (vars : List (Int × Int)), (∀ v ∈ vars, 0 ≤ v.2) → ∀ r : Lv, KPos r.vars → 0 ≤ r.n → Why r → resF (refFold args vars r) = (lv0, 13)
  | [], _, r, hk, hn, hw => told_bad ((bad_why hk hn).2 hw)
  | v :: q, hv, r, hk, hn, hw => by
    rw [refFold]
    split
    · rfl
    · obtain ⟨k1, k2⟩ := refStep_ok (arg_right ha v) (hv v (List.mem_cons_self ..)) hk hn
      refine ref_bad ha q (fun w hw => hv w (List.mem_cons_of_mem _ hw)) _ k1 k2 (why_mono (fun w hw => List.mem_append_left _ hw) (.inl ?_) hw)
      simp only [refStep]; split <;> omega

theorem fold_eq {args : List Lv} (ha : ∀ l ∈ args, rightF l = true) : ∀ (vars : List (Int × Int)), (∀ v ∈ vars, 0 ≤ v.2 ∧ v.2 ≤ 1000) → ∀ r : Lv, KPos r.vars → 0 ≤ r.n → rightF (normF r) = true →
    resF (subFold args vars (normF r)) = resF (refFold args vars r)
  | [], _, r, hk, hn, hr => told_eq (norm_norm hk.pos)
  | v :: q, hv, r, hk, hn, hr => by
    have hv0 := hv v (List.mem_cons_self ..)
    have hq : ∀ w ∈ q, 0 ≤ w.2 ∧ w.2 ≤ 1000 := fun w hw => hv w (List.mem_cons_of_mem _ hw)
    rw [subFold, refFold]
    by_cases hlen : v.1 ≥ args.length
    · rw [if_pos hlen, if_pos hlen]
    rw [if_neg hlen, if_neg hlen]
    have hx := arg_right ha v
    generalize argF args v = x at *
    obtain ⟨n1, n2, n3⟩ := norm_right hx
    obtain ⟨k1, k2⟩ := refStep_ok hx hv0.1 hk hn
    have hxp : Pos (normF x).vars := fun w hw => ⟨(n1 w hw).1.1, (n1 w hw).2.1⟩
    have hxk : KPos (upV v.2 (normF x).vars) := fun w hw => by
      obtain ⟨u, hu, rfl⟩ := List.mem_map.1 hw
      have := n1 u hu
      exact ⟨this.1, by simp only; omega⟩
    -- the greater one
    by_cases hs : rightF (normF ⟨(normF x).n + v.2, upV v.2 (normF x).vars⟩) = true
    case neg =>
      have hs' : rightF (normF ⟨(normF x).n + v.2, upV v.2 (normF x).vars⟩) = false := by simpa using hs
      have hS : SucF x v.2 = (lv0, 13) := told_bad hs'
      rw [hS, if_pos (by decide)]
      have hw := (bad_why (l := ⟨(normF x).n + v.2, upV v.2 (normF x).vars⟩) hxk (by simp only; omega)).1 hs'
      refine (ref_bad ha q (fun w hw => (hq w hw).1) _ k1 k2 (why_mono (fun w hw => List.mem_append_right _ hw) ?_ hw)).symm
      simp only [refStep]
      by_cases hc : (normF x).n > 0 ∨ (normF x).vars = []
      · left
        split
        · omega
        · rename_i h
          rcases Int.lt_or_le r.n ((normF x).n + v.2) with h2 | h2
          · exact absurd ⟨h2, hc⟩ h
          · exact h2
      · right
        cases hvv : (normF x).vars with
        | nil => exact absurd (.inr hvv) hc
        | cons u t =>
          have := (hxp u (by rw [hvv]; exact List.mem_cons_self ..)).2
          exact ⟨(u.1, u.2 + v.2), by simp [upV], by simp only; omega⟩
    have hS : SucF x v.2 = (normF ⟨(normF x).n + v.2, upV v.2 (normF x).vars⟩, 0) := told_good hs
    rw [hS, if_neg (by simp)]
    have hM : MaxF (normF r) (normF ⟨(normF x).n + v.2, upV v.2 (normF x).vars⟩) = ToldF (refStep (normF x) v.2 r) := by
      unfold MaxF
      rw [norm_norm hk.pos, norm_norm (l := ⟨(normF x).n + v.2, upV v.2 (normF x).vars⟩) hxk.pos]
      refine told_eq ?_
      have h := step_norm (r := r) (x := normF x) hv0.1 hk.pos hxp hn n2.1
      have e1 : (normF ⟨(normF x).n + v.2, upV v.2 (normF x).vars⟩).n = cn ((normF x).n + v.2) (upV v.2 (normF x).vars) := normN_cn _ _ hxk.pos
      have e2 : (normF r).n = cn r.n r.vars := normN_cn _ _ hk.pos
      rw [e1, e2]
      exact h
    rw [hM]
    cases hr' : rightF (normF (refStep (normF x) v.2 r)) with
    | false =>
      rw [told_bad hr', if_pos (by decide)]
      exact (ref_bad ha q (fun w hw => (hq w hw).1) _ k1 k2 ((bad_why k1 k2).1 hr')).symm
    | true =>
      rw [told_good hr', if_neg (by simp)]
      exact fold_eq ha q hq _ k1 k2 hr'

/-- A level with levels put in for its parameters. -/
def SubLF (l : Lv) (args : List Lv) : Lv × Int := if rightF l = true ∧ args.all rightF = true then resF (subFold args (normF l).vars ⟨(normF l).n, []⟩) else (lv0, 13)
def SubRF (l : Lv) (args : List Lv) : Lv × Int := if rightF l = true ∧ args.all rightF = true then resF (refFold args (normF l).vars ⟨(normF l).n, []⟩) else (lv0, 13)
theorem sub_same (l : Lv) (args : List Lv) : SubLF l args = SubRF l args := by
  unfold SubLF SubRF
  by_cases h : rightF l = true ∧ args.all rightF = true
  · rw [if_pos h, if_pos h]
    obtain ⟨n1, n2, _⟩ := norm_right h.1
    refine fold_eq (r := ⟨(normF l).n, []⟩) (fun a ha => List.all_eq_true.1 h.2 a ha) (normF l).vars (fun v hv => (n1 v hv).2) (fun v hv => by cases hv) n2.1 ?_
    show rightF ⟨(normF l).n, []⟩ = true
    simp only [rightF, fineF]
    rw [decide_eq_true n2.1, decide_eq_true n2.2]
    rfl
  · rw [if_neg h, if_neg h]
end Go.Proofs.Ytooaiddfokbffaa.E

/- Levels put in for parameters, as the code does it. Conditions: none. -/
set_option linter.unusedVariables false
set_option linter.unusedSimpArgs false
namespace Go.Proofs.Ytooaiddfokbffaa.E
open Go Go.Proofs
attribute [local go_sem] s_seq s_ops s_draw s_block s_skip s_ret s_exit i_nil i_cons i_run i_runG s_condQ c_true c_false aop ev_t ev_c updO_at updO_no upd_at t_normal t_ret t_exit b_normal b_ret b_exit a_some ac_v ac_agg ac_ptr ac_slc ac_ro ac_rop ac_fn new_next set_next argTm_zero argTm_succ argTm_nil ab_bool ab_uv beq_self_eq_true Option.some_beq_some Bool.not_not beq_iff_eq decide_true decide_false Bool.not_true Bool.not_false afld aload astore apack alen_str alen_ro alen_slc alen_nil new_get set_get ite_true ite_false Option.map_some Option.bind_some ibin isShift Nat.add_zero Nat.zero_add List.length_cons List.length_nil List.drop_zero List.drop_succ_cons List.take_succ_cons List.take_zero if_true if_false setL List.set_cons_zero List.set_cons_succ List.all_cons List.all_nil one_int one_bool one_str one_nil one_ptr one_slc one_ro one_rop one_fn Bool.and_self Bool.and_true true_and and_true and_self Bool.false_eq_true post_ret post_normal resAll resOne packR Option.some.injEq exists_eq_left' List.map_cons List.map_nil List.nil_append List.append_nil List.cons_append d_nil d_cons k_nil k_cons g_op g_same g_new avBlock forall_eq' List.getElem?_cons_succ List.getElem?_cons_zero List.getElem?_nil okind gOk bne false_imp_iff forall_const imp_self implies_true true_imp_iff i_callG

theorem told_cases2 (l : Lv) : (∃ m, ToldF l = (m, 0) ∧ rightF m = true) ∨ ToldF l = (lv0, 13) := by
  unfold ToldF
  by_cases h : rightF (normF l) = true
  · rw [if_pos h]; exact .inl ⟨_, rfl, h⟩
  · rw [if_neg h]; exact .inr rfl
theorem LvE.parts {l : Lv} {e : Int} {x : AV} (h : LvE l e x) : ∃ y cs, x = .tup [.agg [aint l.n, y], aint e] ∧ SlV l.vars y ∧ SlR l.vars.length y cs ∧ VarsR l.vars cs := by
  obtain ⟨y, rfl, hy⟩ := h
  obtain ⟨⟨cs, h1, h2⟩, _⟩ := id hy
  exact ⟨y, cs, rfl, hy, h1, h2⟩
theorem right_len {l : Lv} (h : rightF l = true) : l.vars.length ≤ 64 := by
  simp only [rightF, Bool.and_eq_true, decide_eq_true_eq] at h
  exact h.1.2

set_option maxRecDepth 100000 in
theorem subL_ok (l : Lv) (vx : AV) (vs : List AV) (h1 : SlR l.vars.length vx vs) (h2 : VarsR l.vars vs) (hn : l.vars.length ≤ 4611686018427387904) (args : List Lv) (ax : AV) (as' : List AV) (ha1 : SlR args.length ax as') (ha2 : LvsR args as')
    (hal : args.length ≤ 4611686018427387904) (hav : ∀ a ∈ args, a.vars.length ≤ 4611686018427387904) (H : AHeap) :
    SCall Try.prog 148 [.agg [aint l.n, vx], ax] H fun x H' => LvE (SubLF l args).1 (SubLF l args).2 x ∧ H' = H := by
  have aal : ∀ G, alen G .slice ax = some args.length := fun G => ha1.alen G
  have main : SCall Try.prog 148 [.agg [aint l.n, vx], ax] H fun x H' => LvE (SubLF l args).1 (SubLF l args).2 x ∧ Ext H H' := by
    refine SCall.intro mixed cf148 ?_
    have e1 : ¬ H.next = H.next + 1 := by omega
    have e2 : ¬ H.next + 1 = H.next := by omega
    simp -implicitDefEqProofs only [c148, go_sem, Nat.reduceEqDiff, Nat.reduceAdd, Nat.reduceLeDiff, ↓reduceIte, reduceCtorEq, Int.reduceBEq, Int.reduceBNe, Int.reduceLT, Int.reduceLE, Int.reduceGT, Int.reduceGE, Int.reduceNeg, Int.reduceAdd, Int.reduceSub, Nat.reduceMul, Nat.reduceLT, Int.reduceToNat, h1.one, h1.cells, e1, e2]
    refine i_callA (fs := []) (cs := []) ?_ ?_ (Norm_ok l vx vs h1 h2 hn _) ?_
    · rfl
    · simp -implicitDefEqProofs only [go_sem, Nat.reduceEqDiff, Nat.reduceAdd, Nat.reduceLeDiff, ↓reduceIte, reduceCtorEq, Int.reduceBEq, Int.reduceBNe, Int.reduceLT, Int.reduceLE, Int.reduceGT, Int.reduceGE, Int.reduceNeg, Int.reduceAdd, Int.reduceSub, Nat.reduceMul, Nat.reduceLT, Int.reduceToNat]
    cases hr : rightF l with
    | false =>
      have hNF : NormF l = (lv0, 13) := by simp [NormF, hr]
      have hS : SubLF l args = (lv0, 13) := if_neg (by simp [hr])
      rw [hNF, hS]
      rintro x H3 ⟨⟨y, rfl, hy⟩, rfl⟩
      obtain ⟨⟨c3, q1, q2⟩, q3⟩ := id hy
      simp -implicitDefEqProofs only [go_sem, Nat.reduceEqDiff, Nat.reduceAdd, Nat.reduceLeDiff, ↓reduceIte, reduceCtorEq, Int.reduceBEq, Int.reduceBNe, Int.reduceLT, Int.reduceLE, Int.reduceGT, Int.reduceGE, Int.reduceNeg, Int.reduceAdd, Int.reduceSub, Nat.reduceMul, Nat.reduceLT, Int.reduceToNat, q1.one, q1.cells, e1, e2, afill]
      exact ⟨⟨nils, rfl, slv_nil⟩, ((((Ext.refl H).new _).new _).set (by omega) _).set (by omega) _⟩
    | true =>
    have hNF : NormF l = (normF l, 0) := by simp [NormF, hr]
    obtain ⟨nr1, nr2, nr3⟩ := norm_right hr
    rw [hNF]
    rintro x H3 ⟨⟨y, rfl, hy⟩, rfl⟩
    obtain ⟨⟨c3, q1, q2⟩, q3⟩ := id hy
    have hlen := right_len hr
    have yal : ∀ G, alen G .slice y = some (normF l).vars.length := fun G => q1.alen G
    simp -implicitDefEqProofs only [go_sem, Nat.reduceEqDiff, Nat.reduceAdd, Nat.reduceLeDiff, ↓reduceIte, reduceCtorEq, Int.reduceBEq, Int.reduceBNe, Int.reduceLT, Int.reduceLE, Int.reduceGT, Int.reduceGE, Int.reduceNeg, Int.reduceAdd, Int.reduceSub, Nat.reduceMul, Nat.reduceLT, Int.reduceToNat, q1.one, q1.cells, e1, e2, aal]
    refine swp_range args.length (fun i st => st.tm 1 = ax ∧ st.tm 2 = .ptr H.next 0 ∧ st.tm 4 = .ptr (H.next + 1) 0 ∧ st.tm 23 = ax ∧ st.tm 24 = aint args.length ∧ st.tm 25 = aint i ∧ H.next + 2 ≤ st.heap.next ∧ Ext H st.heap ∧ st.heap.get H.next = some (.cells [aint (normF l).n, y]) ∧ st.heap.get (H.next + 1) = some (.cells [aint 0, nils]) ∧
      args.all rightF = (args.drop i).all rightF) ?_ ?_ ?_
    · refine ⟨rfl, rfl, rfl, rfl, rfl, rfl, Nat.le_refl _, (((Ext.refl H).new _).new _).set (by omega) _, ?_, ?_, rfl⟩
      all_goals simp -implicitDefEqProofs only [go_sem, Nat.reduceEqDiff, Nat.reduceAdd, Nat.reduceLeDiff, ↓reduceIte, reduceCtorEq, Int.reduceBEq, Int.reduceBNe, Int.reduceLT, Int.reduceLE, Int.reduceGT, Int.reduceGE, Int.reduceNeg, Int.reduceAdd, Int.reduceSub, Nat.reduceMul, Nat.reduceLT, Int.reduceToNat, e1, e2]
    · rintro i ⟨tm, H2⟩ hi ⟨t1, t2, t4, t23, t24, t25, hnx, hE, g0, g1, hall⟩
      simp only at t1 t2 t4 t23 t24 t25 hnx hE g0 g1
      have hltI : (i : Int) < (args.length : Int) := by omega
      have hix := ha1.aix 2 hi
      obtain ⟨wx, ws, hle, hld, hw1, hw2⟩ := ha2.at (List.getElem?_eq_getElem hi)
      have w3 : IntKind.i64.wrap ((i : Int) + 1) = (i : Int) + 1 := i64_ok _ (by omega)
      have hdrop : args.drop i = args[i] :: args.drop (i + 1) := List.drop_eq_getElem_cons hi
      rw [hdrop, List.all_cons] at hall
      have m0 : ¬ H.next = H2.next := by omega
      have m1 : ¬ H.next + 1 = H2.next := by omega
      have m2 : ¬ H2.next = H.next + 1 := by omega
      have m3 : ¬ H2.next = H.next := by omega
      simp -implicitDefEqProofs only [go_sem, Nat.reduceEqDiff, Nat.reduceAdd, Nat.reduceLeDiff, ↓reduceIte, reduceCtorEq, Int.reduceBEq, Int.reduceBNe, Int.reduceLT, Int.reduceLE, Int.reduceGT, Int.reduceGE, Int.reduceNeg, Int.reduceAdd, Int.reduceSub, Nat.reduceMul, Nat.reduceLT, Int.reduceToNat, t1, t2, t4, t23, t24, t25, hltI, hix, hle, hld, hw1.one, hw1.cells]
      refine i_callA (fs := []) (cs := []) (fid := 179) ?_ ?_ (right_ok args[i] wx ws hw1 hw2 (hav _ (List.getElem_mem hi)) _) ?_
      · rfl
      · simp -implicitDefEqProofs only [go_sem, Nat.reduceEqDiff, Nat.reduceAdd, Nat.reduceLeDiff, ↓reduceIte, reduceCtorEq, Int.reduceBEq, Int.reduceBNe, Int.reduceLT, Int.reduceLE, Int.reduceGT, Int.reduceGE, Int.reduceNeg, Int.reduceAdd, Int.reduceSub, Nat.reduceMul, Nat.reduceLT, Int.reduceToNat]
      rintro x H4 ⟨rfl, rfl⟩
      cases hri : rightF args[i] with
      | true =>
        rw [hri, Bool.true_and] at hall
        simp -implicitDefEqProofs only [go_sem, Nat.reduceEqDiff, Nat.reduceAdd, Nat.reduceLeDiff, ↓reduceIte, reduceCtorEq, Int.reduceBEq, Int.reduceBNe, Int.reduceLT, Int.reduceLE, Int.reduceGT, Int.reduceGE, Int.reduceNeg, Int.reduceAdd, Int.reduceSub, Nat.reduceMul, Nat.reduceLT, Int.reduceToNat, t1, t2, t4, t23, t24, t25, m0, m1, m2, m3, g0, g1, w3]
        exact ⟨by simp, by omega, (hE.new _).set (by omega) _, hall⟩
      | false =>
        rw [hri, Bool.false_and] at hall
        have hS : SubLF l args = (lv0, 13) := if_neg (by simp [hall])
        rw [hS]
        simp -implicitDefEqProofs only [go_sem, Nat.reduceEqDiff, Nat.reduceAdd, Nat.reduceLeDiff, ↓reduceIte, reduceCtorEq, Int.reduceBEq, Int.reduceBNe, Int.reduceLT, Int.reduceLE, Int.reduceGT, Int.reduceGE, Int.reduceNeg, Int.reduceAdd, Int.reduceSub, Nat.reduceMul, Nat.reduceLT, Int.reduceToNat, t1, t2, t4, t23, t24, t25, m0, m1, m2, m3, g0, g1, afill]
        exact ⟨⟨nils, rfl, slv_nil⟩, ((hE.new _).set (by omega) _).set (by omega) _⟩
    rintro ⟨tm, H1⟩ ⟨t1, t2, t4, t23, t24, t25, hnx1, hE1, g0, g1, hall⟩
    simp only at t1 t2 t4 t23 t24 t25 hnx1 hE1 g0 g1
    rw [List.drop_length] at hall
    have hall' : args.all rightF = true := hall
    have hS : SubLF l args = resF (subFold args (normF l).vars ⟨(normF l).n, []⟩) := if_pos ⟨hr, hall'⟩
    rw [hS]
    have hargs : ∀ a ∈ args, rightF a = true := fun a ha => List.all_eq_true.1 hall' a ha
    have k0 : ¬ H.next = H1.next := by omega
    have k1 : ¬ H.next + 1 = H1.next := by omega
    have k2 : ¬ H1.next = H.next + 1 := by omega
    have k3 : ¬ H1.next = H.next := by omega
    simp -implicitDefEqProofs only [go_sem, Nat.reduceEqDiff, Nat.reduceAdd, Nat.reduceLeDiff, ↓reduceIte, reduceCtorEq, Int.reduceBEq, Int.reduceBNe, Int.reduceLT, Int.reduceLE, Int.reduceGT, Int.reduceGE, Int.reduceNeg, Int.reduceAdd, Int.reduceSub, Nat.reduceMul, Nat.reduceLT, Int.reduceToNat, t1, t2, t4, t23, t24, t25, Int.lt_irrefl, g0, g1, q1.one, q1.cells, yal, afill, k0, k1, k2, k3]
    refine swp_range (normF l).vars.length (fun i st => st.tm 1 = ax ∧ st.tm 4 = .ptr (H.next + 1) 0 ∧ st.tm 9 = .ptr H1.next 0 ∧ st.tm 38 = y ∧ st.tm 39 = aint (normF l).vars.length ∧ st.tm 40 = aint i ∧ H1.next + 1 ≤ st.heap.next ∧ Ext H st.heap ∧ st.heap.get (H.next + 1) = some (.cells [aint 0, nils]) ∧
      ∃ out yo, st.heap.get H1.next = some (.cells [aint out.n, yo]) ∧ SlV out.vars yo ∧ rightF out = true ∧ subFold args (normF l).vars ⟨(normF l).n, []⟩ = subFold args ((normF l).vars.drop i) out) ?_ ?_ ?_
    · refine ⟨?_, ?_, rfl, rfl, rfl, rfl, Nat.le_refl _, (hE1.new _).set (by omega) _, ?_, ⟨(normF l).n, []⟩, nils, ?_, slv_nil, ?_, rfl⟩
      · simp -implicitDefEqProofs only [go_sem, Nat.reduceEqDiff, Nat.reduceAdd, Nat.reduceLeDiff, ↓reduceIte, reduceCtorEq, Int.reduceBEq, Int.reduceBNe, Int.reduceLT, Int.reduceLE, Int.reduceGT, Int.reduceGE, Int.reduceNeg, Int.reduceAdd, Int.reduceSub, Nat.reduceMul, Nat.reduceLT, Int.reduceToNat, t1]
      · simp -implicitDefEqProofs only [go_sem, Nat.reduceEqDiff, Nat.reduceAdd, Nat.reduceLeDiff, ↓reduceIte, reduceCtorEq, Int.reduceBEq, Int.reduceBNe, Int.reduceLT, Int.reduceLE, Int.reduceGT, Int.reduceGE, Int.reduceNeg, Int.reduceAdd, Int.reduceSub, Nat.reduceMul, Nat.reduceLT, Int.reduceToNat, t4]
      · simp -implicitDefEqProofs only [go_sem, Nat.reduceEqDiff, Nat.reduceAdd, Nat.reduceLeDiff, ↓reduceIte, reduceCtorEq, Int.reduceBEq, Int.reduceBNe, Int.reduceLT, Int.reduceLE, Int.reduceGT, Int.reduceGE, Int.reduceNeg, Int.reduceAdd, Int.reduceSub, Nat.reduceMul, Nat.reduceLT, Int.reduceToNat, k1, g1]
      · simp -implicitDefEqProofs only [go_sem, Nat.reduceEqDiff, Nat.reduceAdd, Nat.reduceLeDiff, ↓reduceIte, reduceCtorEq, Int.reduceBEq, Int.reduceBNe, Int.reduceLT, Int.reduceLE, Int.reduceGT, Int.reduceGE, Int.reduceNeg, Int.reduceAdd, Int.reduceSub, Nat.reduceMul, Nat.reduceLT, Int.reduceToNat]
      · simp only [rightF, fineF]
        rw [decide_eq_true nr2.1, decide_eq_true nr2.2]; rfl
    · rintro i ⟨tm, H2⟩ hi ⟨t1, t4, t9, t38, t39, t40, hnx, hE, g1, out, yo, g9, hyo, hro, hfold⟩
      simp only at t1 t4 t9 t38 t39 t40 hnx hE g1 g9
      have hltI : (i : Int) < ((normF l).vars.length : Int) := by omega
      have hix := q1.aix 2 hi
      obtain ⟨hle, hld⟩ := q2.at hi
      have hvi := nr1 _ (List.getElem_mem hi)
      have w3 : IntKind.i64.wrap ((i : Int) + 1) = (i : Int) + 1 := i64_ok _ (by omega)
      have hdrop : (normF l).vars.drop i = (normF l).vars[i] :: (normF l).vars.drop (i + 1) := List.drop_eq_getElem_cons hi
      rw [hdrop, subFold] at hfold
      generalize hv : (normF l).vars[i] = v at *
      have m0 : ¬ H.next + 1 = H2.next := by omega
      have m1 : ¬ H1.next = H2.next := by omega
      have m2 : ¬ H2.next = H.next + 1 := by omega
      have m3 : ¬ H2.next = H1.next := by omega
      have m4 : ¬ H.next + 1 = H2.next + 1 := by omega
      have m5 : ¬ H1.next = H2.next + 1 := by omega
      have m6 : ¬ H2.next + 1 = H.next + 1 := by omega
      have m7 : ¬ H2.next + 1 = H1.next := by omega
      have m8 : ¬ H2.next = H2.next + 1 := by omega
      have m9 : ¬ H2.next + 1 = H2.next := by omega
      have m10 : ¬ H.next + 1 = H1.next := by omega
      have m11 : ¬ H1.next = H.next + 1 := by omega
      by_cases hge : v.1 ≥ args.length
      · rw [if_pos hge] at hfold
        rw [hfold]
        simp -implicitDefEqProofs only [go_sem, Nat.reduceEqDiff, Nat.reduceAdd, Nat.reduceLeDiff, ↓reduceIte, reduceCtorEq, Int.reduceBEq, Int.reduceBNe, Int.reduceLT, Int.reduceLE, Int.reduceGT, Int.reduceGE, Int.reduceNeg, Int.reduceAdd, Int.reduceSub, Nat.reduceMul, Nat.reduceLT, Int.reduceToNat, t1, t4, t9, t38, t39, t40, hltI, hix, hle, hld, aal, hge, m0, m1, m2, m3, g1, afill]
        exact ⟨⟨nils, rfl, slv_nil⟩, ((hE.new _).set (by omega) _).set (by omega) _⟩
      rw [if_neg hge] at hfold
      have hvn : ((v.1.toNat : Nat) : Int) = v.1 := by omega
      have hlt : v.1.toNat < args.length := by omega
      have hix2 := ha1.aix 2 hlt
      rw [hvn] at hix2
      obtain ⟨wx, ws, hle2, hld2, hw1, hw2⟩ := ha2.at (List.getElem?_eq_getElem hlt)
      have hargF : argF args v = args[v.1.toNat] := by
        unfold argF; rw [List.getD_eq_getElem?_getD, List.getElem?_eq_getElem hlt]; rfl
      rw [hargF] at hfold
      have hrx := hargs _ (List.getElem_mem hlt)
      generalize hxx : args[v.1.toNat] = xx at *
      simp -implicitDefEqProofs only [go_sem, Nat.reduceEqDiff, Nat.reduceAdd, Nat.reduceLeDiff, ↓reduceIte, reduceCtorEq, Int.reduceBEq, Int.reduceBNe, Int.reduceLT, Int.reduceLE, Int.reduceGT, Int.reduceGE, Int.reduceNeg, Int.reduceAdd, Int.reduceSub, Nat.reduceMul, Nat.reduceLT, Int.reduceToNat, t1, t4, t9, t38, t39, t40, hltI, hix, hle, hld, aal, hge, m0, m1, m2, m3, m4, m5, m6, m7, m8, m9, g1, hix2, hle2, hld2, hw1.one, hw1.cells]
      refine i_callA (fs := []) (cs := []) (fid := 180) ?_ ?_ (suc_ok xx v.2 hrx hvi.2 wx ws hw1 hw2 _) ?_
      · rfl
      · simp -implicitDefEqProofs only [go_sem, Nat.reduceEqDiff, Nat.reduceAdd, Nat.reduceLeDiff, ↓reduceIte, reduceCtorEq, Int.reduceBEq, Int.reduceBNe, Int.reduceLT, Int.reduceLE, Int.reduceGT, Int.reduceGE, Int.reduceNeg, Int.reduceAdd, Int.reduceSub, Nat.reduceMul, Nat.reduceLT, Int.reduceToNat]
      rintro z H4 ⟨hz, hHH⟩
      have hHH := hHH.symm
      subst hHH
      obtain ⟨yz, cz, rfl, hz1, hz2, hz3⟩ := hz.parts
      rcases told_cases2 (⟨(normF xx).n + v.2, upV v.2 (normF xx).vars⟩ : Lv) with ⟨sl, hsl, hsr⟩ | hsl
      case inr =>
        have hS2 : SucF xx v.2 = (lv0, 13) := hsl
        rw [hS2, if_pos (by decide)] at hfold
        rw [hfold]
        rw [hS2] at hz1 hz2 hz3 ⊢
        simp -implicitDefEqProofs only [go_sem, Nat.reduceEqDiff, Nat.reduceAdd, Nat.reduceLeDiff, ↓reduceIte, reduceCtorEq, Int.reduceBEq, Int.reduceBNe, Int.reduceLT, Int.reduceLE, Int.reduceGT, Int.reduceGE, Int.reduceNeg, Int.reduceAdd, Int.reduceSub, Nat.reduceMul, Nat.reduceLT, Int.reduceToNat, t1, t4, t9, t38, t39, t40, hltI, hix, hle, hld, aal, hge, m0, m1, m2, m3, m4, m5, m6, m7, m8, m9, g1, hz2.one, hz2.cells, afill, hix2, hle2, hld2, hw1.one, hw1.cells]
        exact ⟨⟨nils, rfl, slv_nil⟩, ((((hE.new _).set (by omega) _).new _).set (by omega) _).set (by omega) _⟩
      have hS2 : SucF xx v.2 = (sl, 0) := hsl
      rw [hS2, if_neg (by simp)] at hfold
      rw [hS2] at hz1 hz2 hz3 ⊢
      obtain ⟨⟨co, o1, o2⟩, o3⟩ := id hyo
      simp -implicitDefEqProofs only [go_sem, Nat.reduceEqDiff, Nat.reduceAdd, Nat.reduceLeDiff, ↓reduceIte, reduceCtorEq, Int.reduceBEq, Int.reduceBNe, Int.reduceLT, Int.reduceLE, Int.reduceGT, Int.reduceGE, Int.reduceNeg, Int.reduceAdd, Int.reduceSub, Nat.reduceMul, Nat.reduceLT, Int.reduceToNat, t1, t4, t9, t38, t39, t40, hltI, hix, hle, hld, aal, hge, m0, m1, m2, m3, m4, m5, m6, m7, m8, m9, g1, g9, hz2.one, hz2.cells, o1.one, o1.cells, hix2, hle2, hld2, hw1.one, hw1.cells]
      refine i_callA (fs := []) (cs := []) (fid := 181) ?_ ?_ (maxL_ok out sl hro hsr yo yz co cz o1 o2 hz2 hz3 _) ?_
      · rfl
      · simp -implicitDefEqProofs only [go_sem, Nat.reduceEqDiff, Nat.reduceAdd, Nat.reduceLeDiff, ↓reduceIte, reduceCtorEq, Int.reduceBEq, Int.reduceBNe, Int.reduceLT, Int.reduceLE, Int.reduceGT, Int.reduceGE, Int.reduceNeg, Int.reduceAdd, Int.reduceSub, Nat.reduceMul, Nat.reduceLT, Int.reduceToNat]
      rintro z H4 ⟨hz', hHH⟩
      have hHH := hHH.symm
      subst hHH
      obtain ⟨yw, cw, rfl, hw4, hw5, hw6⟩ := hz'.parts
      rcases told_cases2 (⟨if (normF sl).n > (normF out).n then (normF sl).n else (normF out).n, joinF (normF out).vars (normF sl).vars⟩ : Lv) with ⟨ml, hml, hmr⟩ | hml
      case inr =>
        have hM2 : MaxF out sl = (lv0, 13) := hml
        simp only at hfold
        rw [hM2, if_pos (by decide)] at hfold
        rw [hfold]
        rw [hM2] at hw4 hw5 hw6 ⊢
        simp -implicitDefEqProofs only [go_sem, Nat.reduceEqDiff, Nat.reduceAdd, Nat.reduceLeDiff, ↓reduceIte, reduceCtorEq, Int.reduceBEq, Int.reduceBNe, Int.reduceLT, Int.reduceLE, Int.reduceGT, Int.reduceGE, Int.reduceNeg, Int.reduceAdd, Int.reduceSub, Nat.reduceMul, Nat.reduceLT, Int.reduceToNat, t1, t4, t9, t38, t39, t40, hltI, m0, m1, m2, m3, m4, m5, m6, m7, m8, m9, m10, m11, g1, g9, hw5.one, hw5.cells, afill]
        exact ⟨⟨nils, rfl, slv_nil⟩, (((((hE.new _).set (by omega) _).new _).set (by omega) _).set (by omega) _).set (by omega) _⟩
      have hM2 : MaxF out sl = (ml, 0) := hml
      simp only at hfold
      rw [hM2, if_neg (by simp)] at hfold
      rw [hM2] at hw4 hw5 hw6 ⊢
      simp -implicitDefEqProofs only [go_sem, Nat.reduceEqDiff, Nat.reduceAdd, Nat.reduceLeDiff, ↓reduceIte, reduceCtorEq, Int.reduceBEq, Int.reduceBNe, Int.reduceLT, Int.reduceLE, Int.reduceGT, Int.reduceGE, Int.reduceNeg, Int.reduceAdd, Int.reduceSub, Nat.reduceMul, Nat.reduceLT, Int.reduceToNat, t1, t4, t9, t38, t39, t40, hltI, m0, m1, m2, m3, m4, m5, m6, m7, m8, m9, m10, m11, g1, g9, hw5.one, hw5.cells, w3]
      exact ⟨by simp, by omega, ((((hE.new _).set (by omega) _).new _).set (by omega) _).set (by omega) _, ml, yw, rfl, hw4, hmr, hfold⟩
    · rintro ⟨tm, H2⟩ ⟨t1, t4, t9, t38, t39, t40, hnx, hE, g1, out, yo, g9, hyo, hro, hfold⟩
      simp only at t1 t4 t9 t38 t39 t40 hnx hE g1 g9
      rw [List.drop_length, subFold] at hfold
      rw [hfold]
      obtain ⟨⟨co, o1, o2⟩, o3⟩ := id hyo
      have hlo := right_len hro
      simp -implicitDefEqProofs only [go_sem, Nat.reduceEqDiff, Nat.reduceAdd, Nat.reduceLeDiff, ↓reduceIte, reduceCtorEq, Int.reduceBEq, Int.reduceBNe, Int.reduceLT, Int.reduceLE, Int.reduceGT, Int.reduceGE, Int.reduceNeg, Int.reduceAdd, Int.reduceSub, Nat.reduceMul, Nat.reduceLT, Int.reduceToNat, t1, t4, t9, t38, t39, t40, Int.lt_irrefl, g1, g9, o1.one, o1.cells]
      refine i_callA (fs := []) (cs := []) (fid := 182) ?_ ?_ (toldL_ok out yo co o1 o2 (by omega) _) ?_
      · rfl
      · simp -implicitDefEqProofs only [go_sem, Nat.reduceEqDiff, Nat.reduceAdd, Nat.reduceLeDiff, ↓reduceIte, reduceCtorEq, Int.reduceBEq, Int.reduceBNe, Int.reduceLT, Int.reduceLE, Int.reduceGT, Int.reduceGE, Int.reduceNeg, Int.reduceAdd, Int.reduceSub, Nat.reduceMul, Nat.reduceLT, Int.reduceToNat]
      rintro z H4 ⟨hz', hHH⟩
      have hHH := hHH.symm
      subst hHH
      obtain ⟨yw, cw, rfl, hw4, hw5, hw6⟩ := hz'.parts
      simp -implicitDefEqProofs only [go_sem, Nat.reduceEqDiff, Nat.reduceAdd, Nat.reduceLeDiff, ↓reduceIte, reduceCtorEq, Int.reduceBEq, Int.reduceBNe, Int.reduceLT, Int.reduceLE, Int.reduceGT, Int.reduceGE, Int.reduceNeg, Int.reduceAdd, Int.reduceSub, Nat.reduceMul, Nat.reduceLT, Int.reduceToNat, t4, g1, hw5.one, hw5.cells]
      exact ⟨⟨yw, rfl, hw4⟩, hE.set (by omega) _⟩
  exact main.frz fun _ _ x H' ⟨hx, hE⟩ _ => ⟨hE, x, .keep _ (hx.old _), hx⟩
end Go.Proofs.Ytooaiddfokbffaa.E
