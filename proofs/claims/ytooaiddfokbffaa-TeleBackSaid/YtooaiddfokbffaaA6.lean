/- Texts of the proof, one behind the other. Conditions: none. -/
import Derived.Test.YtooaiddfokbffaaA5
import Derived.Test.YtooaiddfokbffaaProg
import Derived.KernelRfl
/- Terms copied as the reference does it. Conditions: none. -/
set_option linter.unusedVariables false
set_option linter.unusedSimpArgs false
namespace Go.Proofs.Ytooaiddfokbffaa.E
open Go Go.Proofs
attribute [local go_sem] s_seq s_ops s_draw s_block s_skip s_ret s_exit i_nil i_cons i_run i_runG s_condQ c_true c_false aop ev_t ev_c updO_at updO_no upd_at t_normal t_ret t_exit b_normal b_ret b_exit a_some ac_v ac_agg ac_ptr ac_slc ac_ro ac_rop ac_fn new_next set_next argTm_zero argTm_succ argTm_nil ab_bool ab_uv beq_self_eq_true Option.some_beq_some Bool.not_not beq_iff_eq decide_true decide_false Bool.not_true Bool.not_false afld aload astore apack alen_str alen_ro alen_slc alen_nil new_get set_get ite_true ite_false Option.map_some Option.bind_some ibin isShift Nat.add_zero Nat.zero_add List.length_cons List.length_nil List.drop_zero List.drop_succ_cons List.take_succ_cons List.take_zero if_true if_false setL List.set_cons_zero List.set_cons_succ List.all_cons List.all_nil one_int one_bool one_str one_nil one_ptr one_slc one_ro one_rop one_fn Bool.and_self Bool.and_true true_and and_true and_self Bool.false_eq_true post_ret post_normal resAll resOne packR Option.some.injEq exists_eq_left' List.map_cons List.map_nil List.nil_append List.append_nil List.cons_append d_nil d_cons k_nil k_cons g_op g_same g_new avBlock forall_eq' List.getElem?_cons_succ List.getElem?_cons_zero List.getElem?_nil okind gOk bne false_imp_iff forall_const imp_self implies_true true_imp_iff i_callG

/-- An appended row lies in a new block. -/
theorem OutS.stepN {H : AHeap} {base es n : Nat} {l : List AV} {x : AV} {K : ASt → Prop} {tm : Nat → AV} {d : Option Nat} {bytes m : Nat} {y : AV} {new : List AV} (hO : OutS H base es n l x) (hsrc : asrc H es y = some (m, new)) (hone : new.all AV.one = true) (hm : 0 < m) (hes : 0 < es)
    (hlim : (n + m) * bytes ≤ 140737488355328 ∧ n + m ≤ 9223372036854775807) (hnl : new.length = m * es)
    (k : ∀ x' H', OutS H' H.next es (n + m) (l ++ new) x' → H.next ≤ H'.next → (∀ b, b < H.next → (∀ off es' n' lo ex, x ≠ .slc b off es' n' lo ex) → H'.get b = H.get b) → K ⟨updO tm d x', H'⟩) :
    after K tm d (aappend H es bytes x y) := by
  unfold aappend
  rw [hsrc]
  simp only
  rw [if_neg (by rw [hone]; simp; omega)]
  rcases hO with ⟨rfl, rfl, rfl⟩ | ⟨b, h1, h2, rfl, h3, h4⟩
  · simp only
    rw [if_neg (by omega), if_pos (by rw [Nat.zero_add] at hlim; exact hlim)]
    simp only [after]
    refine k _ _ (.inr ⟨H.next, Nat.le_refl _, by rw [new_next]; omega, by rw [Nat.zero_add], by rw [new_get, if_pos rfl]; simp, by rw [Nat.zero_add]; simpa using hnl⟩) (Nat.le_succ _) fun b hb _ => ?_
    rw [new_get, if_neg (by omega)]
  · simp only [h3]
    rw [if_pos ⟨trivial, by omega⟩, if_neg (by omega), if_neg (by omega), if_pos hlim, if_neg (by simp), if_pos ⟨trivial, h4⟩]
    simp only [after]
    refine k _ _ (.inr ⟨H.next, Nat.le_refl _, by rw [new_next]; exact Nat.lt_succ_self _, rfl, by rw [new_get]; exact if_pos rfl, by rw [List.length_append, h4, hnl, Nat.add_mul]⟩) (Nat.le_succ _) fun b' hb hne => ?_
    have : b' ≠ b := fun hh => hne 0 es n n false (by rw [hh])
    rw [new_get, if_neg (show ¬ b' = (H.kill b).next from (show ¬ b' = H.next by omega)), kill_get, if_neg this]

/-- A level's row in an own block of a range. -/
def VO (H : AHeap) (lo hi : Nat) (vars : List (Int × Int)) (y : AV) : Prop := (vars.length = 0 ∧ y = nils) ∨ ∃ b, lo ≤ b ∧ b < hi ∧ y = .slc b 0 2 vars.length vars.length false ∧ H.get b = some (.cells (varsC vars))
def LvsO (H : AHeap) (lo hi : Nat) : List Lv → List AV → Prop
  | [], l => l = []
  | v :: r, l => ∃ y l', l = aint v.n :: y :: l' ∧ VO H lo hi v.vars y ∧ LvsO H lo hi r l'
def LvO (H : AHeap) (lo hi : Nat) (lv : List Lv) (x : AV) : Prop := (lv = [] ∧ x = nils) ∨ ∃ b l, lo ≤ b ∧ b < hi ∧ x = .slc b 0 2 lv.length lv.length false ∧ H.get b = some (.cells l) ∧ LvsO H lo hi lv l

theorem VO.frame {H G : AHeap} {lo hi lo' hi' : Nat} {v : List (Int × Int)} {y : AV} (h : VO H lo hi v y) (h1 : lo' ≤ lo) (h2 : hi ≤ hi') (hf : ∀ b, lo ≤ b → b < hi → G.get b = H.get b) : VO G lo' hi' v y := by
  rcases h with h | ⟨b, g1, g2, g3, g4⟩
  · exact .inl h
  · exact .inr ⟨b, by omega, by omega, g3, by rw [hf b g1 g2]; exact g4⟩
theorem LvsO.frame {H G : AHeap} {lo hi lo' hi' : Nat} (h1 : lo' ≤ lo) (h2 : hi ≤ hi') (hf : ∀ b, lo ≤ b → b < hi → G.get b = H.get b) : ∀ {lv : List Lv} {l : List AV}, LvsO H lo hi lv l → LvsO G lo' hi' lv l
  | [], l, h => h
  | v :: r, l, h => by
    simp only [LvsO] at h ⊢
    obtain ⟨y, l', rfl, q1, q2⟩ := h
    exact ⟨y, l', rfl, q1.frame h1 h2 hf, q2.frame h1 h2 hf⟩
theorem LvO.frame {H G : AHeap} {lo hi : Nat} {lv : List Lv} {x : AV} (h : LvO H lo hi lv x) (hf : ∀ b, lo ≤ b → b < hi → G.get b = H.get b) : LvO G lo hi lv x := by
  rcases h with h | ⟨b, l, g1, g2, g3, g4, g5⟩
  · exact .inl h
  · exact .inr ⟨b, l, g1, g2, g3, by rw [hf b g1 g2]; exact g4, g5.frame (Nat.le_refl _) (Nat.le_refl _) hf⟩
theorem LvO.one {H : AHeap} {lo hi : Nat} {lv : List Lv} {x : AV} (h : LvO H lo hi lv x) : x.one = true := by
  rcases h with ⟨_, rfl⟩ | ⟨b, l, _, _, rfl, _⟩ <;> rfl
theorem LvO.cells {H : AHeap} {lo hi : Nat} {lv : List Lv} {x : AV} (h : LvO H lo hi lv x) : x.acells = [x] := by
  rcases h with ⟨_, rfl⟩ | ⟨b, l, _, _, rfl, _⟩ <;> rfl
theorem LvsO.snoc {H : AHeap} {lo hi : Nat} {v : Lv} {y : AV} (hy : VO H lo hi v.vars y) : ∀ {lv : List Lv} {l : List AV}, LvsO H lo hi lv l → LvsO H lo hi (lv ++ [v]) (l ++ [aint v.n, y])
  | [], l, h => by simp only [LvsO] at h; subst h; exact ⟨y, [], rfl, hy, rfl⟩
  | v0 :: r, l, h => by
    simp only [LvsO] at h
    obtain ⟨z, l', rfl, q1, q2⟩ := h
    exact ⟨z, l' ++ [aint v.n, y], rfl, q1, LvsO.snoc hy q2⟩
theorem LvsO.len {H : AHeap} {lo hi : Nat} : ∀ {lv : List Lv} {l : List AV}, LvsO H lo hi lv l → l.length = lv.length * 2
  | [], l, h => by simp only [LvsO] at h; subst h; rfl
  | v0 :: r, l, h => by
    simp only [LvsO] at h
    obtain ⟨z, l', rfl, q1, q2⟩ := h
    have := q2.len
    simp; omega

theorem VO.frz {H : AHeap} {lo hi N : Nat} {v : List (Int × Int)} {y : AV} (h : VO H lo hi v y) (hN : N ≤ lo) : ∃ z, FrzN N H y z ∧ SlV v z := by
  rcases h with ⟨h0, rfl⟩ | ⟨b, h1, h2, rfl, h3⟩
  · exact ⟨nils, .keep _ (.v _), SlV.of (.inl ⟨h0, rfl⟩)⟩
  · refine ⟨.ro v.length v.length false (varsC v), .slc b 0 2 _ _ _ _ _ h3 (by omega) (by omega) (fun i x y hx hy => ?_), SlV.of (.inr ⟨_, _, rfl, Nat.le_refl _⟩)⟩
    rw [Nat.zero_add] at hx
    rw [hx] at hy
    injection hy with hy
    subst hy
    exact .keep _ (varsC_old _ _ _ (List.mem_of_getElem? hx))
theorem LvsO.frz {H : AHeap} {lo hi N : Nat} (hN : N ≤ lo) : ∀ {lv : List Lv} {l : List AV}, LvsO H lo hi lv l → ∃ l', l'.length = l.length ∧ (∀ (i : Nat) (x y : AV), l[i]? = some x → l'[i]? = some y → FrzN N H x y) ∧ LvsX lv l'
  | [], l, h => by simp only [LvsO] at h; subst h; exact ⟨[], rfl, fun i x y hx => by simp at hx, rfl⟩
  | v :: r, l, h => by
    simp only [LvsO] at h
    obtain ⟨y, l', rfl, q1, q2⟩ := h
    obtain ⟨z, z1, z2⟩ := q1.frz hN
    obtain ⟨m, m1, m2, m3⟩ := q2.frz hN
    refine ⟨aint v.n :: z :: m, by simp [m1], fun i x y hx hy => ?_, z, m, rfl, z2, m3⟩
    match i, hx, hy with
    | 0, hx, hy => simp at hx hy; subst hx hy; exact .keep _ (.v _)
    | 1, hx, hy => simp at hx hy; subst hx hy; exact z1
    | i + 2, hx, hy => exact m2 i x y (by simpa using hx) (by simpa using hy)
theorem LvO.frz {H : AHeap} {lo hi N : Nat} {lv : List Lv} {x : AV} (h : LvO H lo hi lv x) (hN : N ≤ lo) : ∃ z, FrzN N H x z ∧ SlL lv z := by
  rcases h with ⟨rfl, rfl⟩ | ⟨b, l, h1, h2, rfl, h3, h4⟩
  · exact ⟨nils, .keep _ (.v _), sll_nil⟩
  · obtain ⟨l', g1, g2, g3⟩ := h4.frz hN
    refine ⟨.ro lv.length lv.length false l', .slc b 0 2 _ _ _ _ _ h3 (by omega) (by omega) (fun i x y hx hy => ?_), SlL.of g3 (.inr ⟨_, _, rfl, Nat.le_refl _⟩)⟩
    rw [Nat.zero_add] at hx
    exact g2 i x y hx hy
theorem OutS.high {H : AHeap} {base es n : Nat} {l : List AV} {x : AV} (h : OutS H base es n l x) {b : Nat} (hb : H.next ≤ b) : ∀ off es' n' lo ex, x ≠ .slc b off es' n' lo ex := by
  intro off es' n' lo ex hx
  rcases h with ⟨_, _, rfl⟩ | ⟨b0, g1, g2, rfl, g3⟩
  · cases hx
  · injection hx with hx; omega
theorem OutS.keepLow {H H' : AHeap} {base es n : Nat} {l : List AV} {x : AV} (h : OutS H base es n l x) (hn : H.next ≤ H'.next) (hk : ∀ b, b < H.next → H'.get b = H.get b) : OutS H' base es n l x := by
  rcases h with h | ⟨b, h1, h2, h3, h4, h5⟩
  · exact .inl h
  · exact .inr ⟨b, h1, by omega, h3, by rw [hk b h2]; exact h4, h5⟩
theorem lvo_of {H : AHeap} {base lo : Nat} {lv : List Lv} {x : AV} {l : List AV} (hO : OutS H base 2 lv.length l x) (hl : lo ≤ base ∧ base ≤ H.next) (hL : LvsO H lo base lv l) : LvO H lo H.next lv x := by
  rcases hO with ⟨h0, rfl, rfl⟩ | ⟨b, g1, g2, g3, g4, g5⟩
  · exact .inl ⟨List.length_eq_zero_iff.1 h0, rfl⟩
  · exact .inr ⟨b, l, by omega, g2, g3, g4, hL.frame (Nat.le_refl _) (by omega) fun b _ _ => rfl⟩
theorem VO.one {H : AHeap} {lo hi : Nat} {v : List (Int × Int)} {y : AV} (h : VO H lo hi v y) : y.one = true := by
  rcases h with ⟨_, rfl⟩ | ⟨b, _, _, rfl, _⟩ <;> rfl
theorem VO.cells {H : AHeap} {lo hi : Nat} {v : List (Int × Int)} {y : AV} (h : VO H lo hi v y) : y.acells = [y] := by
  rcases h with ⟨_, rfl⟩ | ⟨b, _, _, rfl, _⟩ <;> rfl
theorem app_vars {K : ASt → Prop} {tm : Nat → AV} {d : Option Nat} {H : AHeap} {vars : List (Int × Int)} {vx : AV} {vs : List AV} (h1 : SlR vars.length vx vs) (h2 : VarsR vars vs) (hn : vars.length * 16 ≤ 140737488351232)
    (k : ∀ y G1, VO G1 H.next G1.next vars y → H.next ≤ G1.next → (∀ b, b < H.next → G1.get b = H.get b) → K ⟨updO tm d y, G1⟩) : after K tm d (aappend H 2 16 (.v (.slice none 0 0)) vx) := by
  have hs := h1.src2 h2 H
  by_cases h0 : vars.length = 0
  · have hv : vars = [] := List.length_eq_zero_iff.1 h0
    subst hv
    refine OutS.step0 (base := 0) .nil hs (by omega) (k _ _ (.inl ⟨rfl, rfl⟩) (Nat.le_refl _) fun b _ => rfl)
  · refine OutS.stepN (base := 0) .nil hs (by rw [varsC_one]) (by omega) (by omega) ⟨by omega, by omega⟩ (varsC_length _) fun x' H' r1 r2 r3 => ?_
    rw [Nat.zero_add, List.nil_append] at r1
    refine k _ _ ?_ r2 fun b hb => r3 b hb fun _ _ _ _ _ hh => by cases hh
    rcases r1 with ⟨q, _⟩ | ⟨b, g1, g2, g3, g4, g5⟩
    · exact absurd q h0
    · exact .inr ⟨b, g1, g2, g3, g4⟩


set_option maxRecDepth 100000 in
theorem clean_ok : ∀ t, Tm.All TmB t → ∀ (cells : List AV), TmP t cells → ∀ (H : AHeap), SCall Try.prog 32 [.agg cells] H fun x H' => (∃ c, x = .agg c ∧ TmP (cleanT t) c) ∧ H' = H := by
  refine Tm.rule fun f n hid s lv ks ih ha cells hT H => ?_
  have hT' := hT
  have hTc := hT.1
  obtain ⟨lx, kx, ls, cs, rfl, hl1, hl2, hk1, hk2⟩ := hTc.six
  simp only [Tm.All, Tm.form, Tm.n, Tm.hid, Tm.name, Tm.lv, Tm.kids] at *
  obtain ⟨hTB, a5⟩ := ha
  have hTB' := hTB
  simp only [TmB, Tm.form, Tm.n, Tm.name, Tm.lv, Tm.kids] at hTB'
  obtain ⟨_, _, b1, b2, b3, b4⟩ := hTB'
  have e1 : ¬ H.next = H.next + 1 := by omega
  have e2 : ¬ H.next + 1 = H.next := by omega
  have e3 : ¬ H.next = H.next + 1 + 1 := by omega
  have e4 : ¬ H.next + 1 = H.next + 1 + 1 := by omega
  have e5 : ¬ H.next + 1 + 1 = H.next := by omega
  have e6 : ¬ H.next + 1 + 1 = H.next + 1 := by omega
  have p1 := hl1.one
  have p2 := hl1.cells
  have p3 := hk1.one
  have p4 := hk1.cells
  have kal : ∀ G, alen G .slice kx = some ks.length := fun G => hk1.alen G
  have lal : ∀ G, alen G .slice lx = some lv.length := fun G => hl1.alen G
  have hkxo : Old 0 kx := hT'.2 kx (by simp)
  have hlb : ∀ l ∈ lv, l.vars.length * 16 ≤ 140737488351232 := fun l hl => (b4 l hl).2.1
  refine SCall.frz (R := fun x H' => Ext H H' ∧ ∃ y, FrzN H.next H' x y ∧ ∃ c, y = .agg c ∧ TmP (cleanT (.mk f n hid s lv ks)) c) (SCall.intro mixed cf32 ?_) (fun _ _ x H' ⟨h1, y, h2, h3⟩ _ => ⟨h1, y, h2, h3⟩)
  have hbt : ∃ bn bh bs blv, bareT (.mk f n hid s lv ks) = .mk f bn bh bs blv [] := ⟨_, _, _, _, rfl⟩
  obtain ⟨bn, bh, bs, blv, hbt⟩ := hbt
  rw [cleanT, hbt]
  simp -implicitDefEqProofs only [c32, s_seq, s_ops, s_draw, s_skip, s_ret, s_exit, i_nil, i_cons, i_run, i_runG, s_condQ, c_true, c_false, aop, ev_t, ev_c, updO_at, updO_no, upd_at, t_normal, t_ret, t_exit, b_normal, b_ret, b_exit, a_some, ac_v, ac_agg, ac_ptr, ac_slc, ac_ro, ac_rop, ac_fn, new_next, set_next, argTm_zero, argTm_succ, argTm_nil, ab_bool, ab_uv, beq_self_eq_true, Option.some_beq_some, Bool.not_not, beq_iff_eq, decide_true, decide_false, Bool.not_true, Bool.not_false, afld, aload, astore, apack, alen_str, alen_ro, alen_slc, alen_nil, new_get, set_get, ite_true, ite_false, Option.map_some, Option.bind_some, ibin, isShift, Nat.reduceEqDiff, Nat.add_zero, Nat.zero_add, List.length_cons, List.length_nil, Nat.reduceAdd, Nat.reduceLeDiff, List.drop_zero, List.drop_succ_cons, List.take_succ_cons, List.take_zero, if_true, if_false, ↓reduceIte, reduceCtorEq, setL, List.set_cons_zero, List.set_cons_succ, List.all_cons, List.all_nil, one_int, one_bool, one_str, one_nil, one_ptr, one_slc, one_ro, one_rop, one_fn, Bool.and_self, Bool.and_true, true_and, and_true, and_self, Bool.false_eq_true, post_ret, post_normal, resAll, resOne, packR, Option.some.injEq, exists_eq_left', List.map_cons, List.map_nil, List.nil_append, List.append_nil, List.cons_append, d_nil, d_cons, k_nil, k_cons, g_op, g_same, g_new, avBlock, forall_eq', List.getElem?_cons_succ, List.getElem?_cons_zero, List.getElem?_nil, okind, gOk, Int.reduceBEq, Int.reduceBNe, Int.reduceLT, Int.reduceLE, Int.reduceGT, Int.reduceGE, Int.reduceNeg, Int.reduceAdd, Int.reduceSub, bne, false_imp_iff, forall_const, imp_self, implies_true, true_imp_iff, Nat.reduceMul, Nat.reduceLT, Int.reduceToNat, i_callG, p1, p2, p3, p4, e1, e2, e3, e4, e5, e6, afill]
  generalize hG : (((H.new (.cells [aint f, aint n, abl hid, .v (.string s), lx, kx])).new (.cells z6)).new (.cells z6)).set (H.next + 1 + 1) (.cells [aint f, aint 0, abl false, nostr, nils, nils]) = G
  have hE : Ext H G := by rw [← hG]; exact (((((Ext.refl H).new _).new _).new _).set (by omega) _)
  have hg0 : G.get H.next = some (.cells [aint f, aint n, abl hid, .v (.string s), lx, kx]) := by rw [← hG]; simp -implicitDefEqProofs only [go_sem, Nat.reduceEqDiff, Nat.reduceAdd, Nat.reduceLeDiff, ↓reduceIte, reduceCtorEq, Int.reduceBEq, Int.reduceBNe, Int.reduceLT, Int.reduceLE, Int.reduceGT, Int.reduceGE, Int.reduceNeg, Int.reduceAdd, Int.reduceSub, Nat.reduceMul, Nat.reduceLT, Int.reduceToNat, e1, e3]
  have hg1 : G.get (H.next + 1) = some (.cells z6) := by rw [← hG]; simp -implicitDefEqProofs only [go_sem, Nat.reduceEqDiff, Nat.reduceAdd, Nat.reduceLeDiff, ↓reduceIte, reduceCtorEq, Int.reduceBEq, Int.reduceBNe, Int.reduceLT, Int.reduceLE, Int.reduceGT, Int.reduceGE, Int.reduceNeg, Int.reduceAdd, Int.reduceSub, Nat.reduceMul, Nat.reduceLT, Int.reduceToNat, e4]
  have hg2 : G.get (H.next + 1 + 1) = some (.cells [aint f, aint 0, abl false, nostr, nils, nils]) := by rw [← hG]; simp -implicitDefEqProofs only [go_sem, Nat.reduceEqDiff, Nat.reduceAdd, Nat.reduceLeDiff, ↓reduceIte, reduceCtorEq, Int.reduceBEq, Int.reduceBNe, Int.reduceLT, Int.reduceLE, Int.reduceGT, Int.reduceGE, Int.reduceNeg, Int.reduceAdd, Int.reduceSub, Nat.reduceMul, Nat.reduceLT, Int.reduceToNat]
  have hgn : G.next = H.next + 3 := by rw [← hG]; rfl
  clear hG
  refine cutB (M := fun st => st.tm 1 = .ptr H.next 0 ∧ st.tm 2 = .ptr (H.next + 1) 0 ∧ st.tm 3 = .ptr (H.next + 1 + 1) 0 ∧ H.next + 3 ≤ st.heap.next ∧ Ext H st.heap ∧ st.heap.get H.next = some (.cells [aint f, aint n, abl hid, .v (.string s), lx, kx]) ∧ st.heap.get (H.next + 1) = some (.cells z6) ∧
    ∃ ay, LvO st.heap (H.next + 3) st.heap.next blv ay ∧ st.heap.get (H.next + 1 + 1) = some (.cells [aint f, aint bn, abl bh, .v (.string bs), ay, nils])) ?_ ?_
  · by_cases c1 : f = 1 ∨ f = 11
    · have hbt2 : bareT (.mk f n hid s lv ks) = .mk f n false zeroS [] [] := by
        simp only [bareT]
        rcases c1 with rfl | rfl <;> rfl
      rw [hbt] at hbt2
      injection hbt2 with _ k1 k2 k3 k4 _
      have k1 := k1.symm; have k2 := k2.symm; have k3 := k3.symm; have k4 := k4.symm
      subst k1 k2 k3 k4
      rcases c1 with rfl | rfl
      · simp -implicitDefEqProofs only [go_sem, Nat.reduceEqDiff, Nat.reduceAdd, Nat.reduceLeDiff, ↓reduceIte, reduceCtorEq, Int.reduceBEq, Int.reduceBNe, Int.reduceLT, Int.reduceLE, Int.reduceGT, Int.reduceGE, Int.reduceNeg, Int.reduceAdd, Int.reduceSub, Nat.reduceMul, Nat.reduceLT, Int.reduceToNat, hg0, hg1, hg2, p1, p2, p3, p4, e1, e2, e3, e4, e5, e6]
        exact ⟨by omega, hE.set (by omega) _, nils, .inl ⟨rfl, rfl⟩, rfl⟩
      · simp -implicitDefEqProofs only [go_sem, Nat.reduceEqDiff, Nat.reduceAdd, Nat.reduceLeDiff, ↓reduceIte, reduceCtorEq, Int.reduceBEq, Int.reduceBNe, Int.reduceLT, Int.reduceLE, Int.reduceGT, Int.reduceGE, Int.reduceNeg, Int.reduceAdd, Int.reduceSub, Nat.reduceMul, Nat.reduceLT, Int.reduceToNat, hg0, hg1, hg2, p1, p2, p3, p4, e1, e2, e3, e4, e5, e6]
        exact ⟨by omega, hE.set (by omega) _, nils, .inl ⟨rfl, rfl⟩, rfl⟩
    by_cases c2 : f = 3 ∨ f = 4 ∨ f = 5
    · have hbt2 : bareT (.mk f n hid s lv ks) = .mk f 0 hid zeroS [] [] := by
        simp only [bareT]
        rcases c2 with rfl | rfl | rfl <;> rfl
      rw [hbt] at hbt2
      injection hbt2 with _ k1 k2 k3 k4 _
      have k1 := k1.symm; have k2 := k2.symm; have k3 := k3.symm; have k4 := k4.symm
      subst k1 k2 k3 k4
      rcases c2 with rfl | rfl | rfl
      · simp -implicitDefEqProofs only [go_sem, Nat.reduceEqDiff, Nat.reduceAdd, Nat.reduceLeDiff, ↓reduceIte, reduceCtorEq, Int.reduceBEq, Int.reduceBNe, Int.reduceLT, Int.reduceLE, Int.reduceGT, Int.reduceGE, Int.reduceNeg, Int.reduceAdd, Int.reduceSub, Nat.reduceMul, Nat.reduceLT, Int.reduceToNat, hg0, hg1, hg2, p1, p2, p3, p4, e1, e2, e3, e4, e5, e6]
        exact ⟨by omega, hE.set (by omega) _, nils, .inl ⟨rfl, rfl⟩, rfl⟩
      · simp -implicitDefEqProofs only [go_sem, Nat.reduceEqDiff, Nat.reduceAdd, Nat.reduceLeDiff, ↓reduceIte, reduceCtorEq, Int.reduceBEq, Int.reduceBNe, Int.reduceLT, Int.reduceLE, Int.reduceGT, Int.reduceGE, Int.reduceNeg, Int.reduceAdd, Int.reduceSub, Nat.reduceMul, Nat.reduceLT, Int.reduceToNat, hg0, hg1, hg2, p1, p2, p3, p4, e1, e2, e3, e4, e5, e6]
        exact ⟨by omega, hE.set (by omega) _, nils, .inl ⟨rfl, rfl⟩, rfl⟩
      · simp -implicitDefEqProofs only [go_sem, Nat.reduceEqDiff, Nat.reduceAdd, Nat.reduceLeDiff, ↓reduceIte, reduceCtorEq, Int.reduceBEq, Int.reduceBNe, Int.reduceLT, Int.reduceLE, Int.reduceGT, Int.reduceGE, Int.reduceNeg, Int.reduceAdd, Int.reduceSub, Nat.reduceMul, Nat.reduceLT, Int.reduceToNat, hg0, hg1, hg2, p1, p2, p3, p4, e1, e2, e3, e4, e5, e6]
        exact ⟨by omega, hE.set (by omega) _, nils, .inl ⟨rfl, rfl⟩, rfl⟩
    have n1 : ¬ f = 1 := fun h => c1 (.inl h)
    have n11 : ¬ f = 11 := fun h => c1 (.inr h)
    by_cases c3 : f = 2 ∨ f = 10
    · have hbt2 : bareT (.mk f n hid s lv ks) = .mk f 0 false (if f = 10 then s else zeroS) lv [] := by
        simp only [bareT]
        rcases c3 with rfl | rfl <;> rfl
      rw [hbt] at hbt2
      injection hbt2 with _ k1 k2 k3 k4 _
      rcases c3 with rfl | rfl
      · rw [if_neg (by decide)] at k3
        have k1 := k1.symm; have k2 := k2.symm; have k3 := k3.symm; have k4 := k4.symm
        subst k1 k2 k3 k4
        simp -implicitDefEqProofs only [go_sem, Nat.reduceEqDiff, Nat.reduceAdd, Nat.reduceLeDiff, ↓reduceIte, reduceCtorEq, Int.reduceBEq, Int.reduceBNe, Int.reduceLT, Int.reduceLE, Int.reduceGT, Int.reduceGE, Int.reduceNeg, Int.reduceAdd, Int.reduceSub, Nat.reduceMul, Nat.reduceLT, Int.reduceToNat, hg0, hg1, hg2, p1, p2, p3, p4, e1, e2, e3, e4, e5, e6, lal]
        refine swp_range lv.length (fun i st => st.tm 1 = .ptr H.next 0 ∧ st.tm 2 = .ptr (H.next + 1) 0 ∧ st.tm 3 = .ptr (H.next + 1 + 1) 0 ∧ st.tm 4 = aint i ∧ Ext H st.heap ∧ st.heap.get H.next = some (.cells [aint 2, aint n, abl hid, .v (.string s), lx, kx]) ∧ st.heap.get (H.next + 1) = some (.cells z6) ∧
          ∃ base x l, H.next + 3 ≤ base ∧ base ≤ st.heap.next ∧ OutS st.heap base 2 i l x ∧ LvsO st.heap (H.next + 3) base (lv.take i) l ∧ st.heap.get (H.next + 1 + 1) = some (.cells [aint 2, aint 0, abl false, .v (.string zeroS), x, nils])) ?_ ?_ ?_
        · refine ⟨rfl, rfl, rfl, rfl, ?_, ?_, ?_, H.next + 3, _, [], Nat.le_refl _, ?_, .nil, rfl, ?_⟩
          · exact hE
          · exact hg0
          · exact hg1
          · exact Nat.le_of_eq hgn.symm
          · exact hg2
        · rintro i ⟨tm, H2⟩ hi ⟨t1, t2, t3, t4, hE2, x0, x1, base, x, l, hb1, hb2, hO, hL, x2⟩
          simp only at t1 t2 t3 t4 hE2 x0 x1 hb2 hO hL x2
          have hltI : (i : Int) < (lv.length : Int) := by omega
          have hix := hl1.aix 2 hi
          obtain ⟨vx, vs, hle, hld, hv1, hv2⟩ := hl2.at (List.getElem?_eq_getElem hi)
          have w3 : IntKind.i64.wrap ((i : Int) + 1) = (i : Int) + 1 := i64_ok _ (by omega)
          have hle0 : i * 2 + 1 ≤ ls.length := by omega
          have hle1 : i * 2 + 1 + 1 ≤ ls.length := by omega
          have hld0 : (ls.drop (i * 2)).take 1 = [aint lv[i].n] := by
            have := congrArg (List.take 1) hld
            rw [List.take_take] at this
            simpa using this
          have hld1 : (ls.drop (i * 2 + 1)).take 1 = [vx] := by
            have := congrArg (fun q => (List.drop 1 q).take 1) hld
            simp only [List.drop_take, List.drop_drop, List.take_take] at this
            simpa using this
          simp -implicitDefEqProofs only [go_sem, Nat.reduceEqDiff, Nat.reduceAdd, Nat.reduceLeDiff, ↓reduceIte, reduceCtorEq, Int.reduceBEq, Int.reduceBNe, Int.reduceLT, Int.reduceLE, Int.reduceGT, Int.reduceGE, Int.reduceNeg, Int.reduceAdd, Int.reduceSub, Nat.reduceMul, Nat.reduceLT, Int.reduceToNat, t1, t2, t3, t4, x0, x1, x2, lal, hltI, hix, hle0, hle1, hld0, hld1, hv1.one, hv1.cells, hO.one, hO.cells, p1, p2, p3, p4]
          refine app_vars hv1 hv2 (hlb _ (List.getElem_mem hi)) fun y G1 hy hn1 hG1 => ?_
          have y0 := (hG1 _ (by omega)).trans x0
          have y1 := (hG1 _ (by omega)).trans x1
          have y2 := (hG1 _ (by omega)).trans x2
          simp -implicitDefEqProofs only [go_sem, Nat.reduceEqDiff, Nat.reduceAdd, Nat.reduceLeDiff, ↓reduceIte, reduceCtorEq, Int.reduceBEq, Int.reduceBNe, Int.reduceLT, Int.reduceLE, Int.reduceGT, Int.reduceGE, Int.reduceNeg, Int.reduceAdd, Int.reduceSub, Nat.reduceMul, Nat.reduceLT, Int.reduceToNat, t1, t2, t3, t4, y0, y1, y2, lal, hltI, hix, hle0, hle1, hld0, hld1, hv1.one, hv1.cells, hO.one, hO.cells, p1, p2, p3, p4, hy.one, hy.cells, afill]
          refine ((hO.keepLow hn1 hG1).new _).stepN (m := 1) (new := [aint lv[i].n, y]) (asrc_slc (c := [aint lv[i].n, y]) (by rw [new_get]; exact if_pos rfl) (by simp)) (by simp [hy.one, one_int]) (by omega) (by omega) ⟨by omega, by omega⟩ rfl fun x' G' r6 r7 r8 => ?_
          rw [new_next] at r6 r7
          have hGo : ∀ b, b < base → G'.get b = H2.get b := fun b hb => by
            rw [r8 b (by rw [new_next]; omega) (hO.notlow hb), new_get, if_neg (by omega)]; exact hG1 b (by omega)
          have v0 := (hGo _ (by omega)).trans x0
          have v1 := (hGo _ (by omega)).trans x1
          have v2 := (hGo _ (by omega)).trans x2
          simp -implicitDefEqProofs only [go_sem, Nat.reduceEqDiff, Nat.reduceAdd, Nat.reduceLeDiff, ↓reduceIte, reduceCtorEq, Int.reduceBEq, Int.reduceBNe, Int.reduceLT, Int.reduceLE, Int.reduceGT, Int.reduceGE, Int.reduceNeg, Int.reduceAdd, Int.reduceSub, Nat.reduceMul, Nat.reduceLT, Int.reduceToNat, t1, t2, t3, t4, v0, v1, v2, w3, r6.one, r6.cells, hO.one, hO.cells, e1, e2, e3, e4, e5, e6]
          refine ⟨by simp, Ext.set ⟨by have := hE2.1; omega, fun b hb => by rw [hGo b (by omega)]; exact hE2.2 b hb⟩ (by omega) _, G1.next + 1, _, _, by omega, by omega, r6.set (r6.notlow (by omega)) _, ?_, rfl⟩
          rw [List.take_succ_eq_append_getElem hi]
          refine LvsO.snoc ?_ ?_
          · exact hy.frame (by omega) (by omega) fun b q1 q2 => by rw [set_get, if_neg (by omega), r8 b (by rw [new_next]; omega) (hO.high (by omega)), new_get, if_neg (by omega)]
          · exact hL.frame (Nat.le_refl _) (by omega) fun b q1 q2 => by rw [set_get, if_neg (by omega)]; exact hGo b q2
        · rintro ⟨tm, H2⟩ ⟨t1, t2, t3, t4, hE2, x0, x1, base, x, l, hb1, hb2, hO, hL, x2⟩
          simp only at t1 t2 t3 t4 hE2 x0 x1 hb2 hO hL x2
          rw [List.take_length] at hL
          simp -implicitDefEqProofs only [go_sem, Nat.reduceEqDiff, Nat.reduceAdd, Nat.reduceLeDiff, ↓reduceIte, reduceCtorEq, Int.reduceBEq, Int.reduceBNe, Int.reduceLT, Int.reduceLE, Int.reduceGT, Int.reduceGE, Int.reduceNeg, Int.reduceAdd, Int.reduceSub, Nat.reduceMul, Nat.reduceLT, Int.reduceToNat, t1, t2, t3, t4, x0, x1, x2, lal, Int.lt_irrefl, p1, p2, p3, p4, hO.one, hO.cells]
          exact ⟨by omega, hE2, x, lvo_of hO ⟨hb1, hb2⟩ hL, rfl⟩
      · rw [if_pos rfl] at k3
        have k1 := k1.symm; have k2 := k2.symm; have k3 := k3.symm; have k4 := k4.symm
        subst k1 k2 k3 k4
        simp -implicitDefEqProofs only [go_sem, Nat.reduceEqDiff, Nat.reduceAdd, Nat.reduceLeDiff, ↓reduceIte, reduceCtorEq, Int.reduceBEq, Int.reduceBNe, Int.reduceLT, Int.reduceLE, Int.reduceGT, Int.reduceGE, Int.reduceNeg, Int.reduceAdd, Int.reduceSub, Nat.reduceMul, Nat.reduceLT, Int.reduceToNat, hg0, hg1, hg2, p1, p2, p3, p4, e1, e2, e3, e4, e5, e6, lal]
        refine swp_range lv.length (fun i st => st.tm 1 = .ptr H.next 0 ∧ st.tm 2 = .ptr (H.next + 1) 0 ∧ st.tm 3 = .ptr (H.next + 1 + 1) 0 ∧ st.tm 4 = aint i ∧ Ext H st.heap ∧ st.heap.get H.next = some (.cells [aint 10, aint n, abl hid, .v (.string s), lx, kx]) ∧ st.heap.get (H.next + 1) = some (.cells z6) ∧
          ∃ base x l, H.next + 3 ≤ base ∧ base ≤ st.heap.next ∧ OutS st.heap base 2 i l x ∧ LvsO st.heap (H.next + 3) base (lv.take i) l ∧ st.heap.get (H.next + 1 + 1) = some (.cells [aint 10, aint 0, abl false, .v (.string s), x, nils])) ?_ ?_ ?_
        · refine ⟨rfl, rfl, rfl, rfl, ?_, ?_, ?_, H.next + 3, _, [], Nat.le_refl _, ?_, .nil, rfl, ?_⟩
          · exact hE.set (by omega) _
          · show (G.set (H.next + 1 + 1) _).get H.next = _
            rw [set_get, if_neg e3]; exact hg0
          · show (G.set (H.next + 1 + 1) _).get (H.next + 1) = _
            rw [set_get, if_neg e4]; exact hg1
          · exact Nat.le_of_eq hgn.symm
          · show (G.set (H.next + 1 + 1) _).get (H.next + 1 + 1) = _
            rw [set_get]; exact if_pos rfl
        · rintro i ⟨tm, H2⟩ hi ⟨t1, t2, t3, t4, hE2, x0, x1, base, x, l, hb1, hb2, hO, hL, x2⟩
          simp only at t1 t2 t3 t4 hE2 x0 x1 hb2 hO hL x2
          have hltI : (i : Int) < (lv.length : Int) := by omega
          have hix := hl1.aix 2 hi
          obtain ⟨vx, vs, hle, hld, hv1, hv2⟩ := hl2.at (List.getElem?_eq_getElem hi)
          have w3 : IntKind.i64.wrap ((i : Int) + 1) = (i : Int) + 1 := i64_ok _ (by omega)
          have hle0 : i * 2 + 1 ≤ ls.length := by omega
          have hle1 : i * 2 + 1 + 1 ≤ ls.length := by omega
          have hld0 : (ls.drop (i * 2)).take 1 = [aint lv[i].n] := by
            have := congrArg (List.take 1) hld
            rw [List.take_take] at this
            simpa using this
          have hld1 : (ls.drop (i * 2 + 1)).take 1 = [vx] := by
            have := congrArg (fun q => (List.drop 1 q).take 1) hld
            simp only [List.drop_take, List.drop_drop, List.take_take] at this
            simpa using this
          simp -implicitDefEqProofs only [go_sem, Nat.reduceEqDiff, Nat.reduceAdd, Nat.reduceLeDiff, ↓reduceIte, reduceCtorEq, Int.reduceBEq, Int.reduceBNe, Int.reduceLT, Int.reduceLE, Int.reduceGT, Int.reduceGE, Int.reduceNeg, Int.reduceAdd, Int.reduceSub, Nat.reduceMul, Nat.reduceLT, Int.reduceToNat, t1, t2, t3, t4, x0, x1, x2, lal, hltI, hix, hle0, hle1, hld0, hld1, hv1.one, hv1.cells, hO.one, hO.cells, p1, p2, p3, p4]
          refine app_vars hv1 hv2 (hlb _ (List.getElem_mem hi)) fun y G1 hy hn1 hG1 => ?_
          have y0 := (hG1 _ (by omega)).trans x0
          have y1 := (hG1 _ (by omega)).trans x1
          have y2 := (hG1 _ (by omega)).trans x2
          simp -implicitDefEqProofs only [go_sem, Nat.reduceEqDiff, Nat.reduceAdd, Nat.reduceLeDiff, ↓reduceIte, reduceCtorEq, Int.reduceBEq, Int.reduceBNe, Int.reduceLT, Int.reduceLE, Int.reduceGT, Int.reduceGE, Int.reduceNeg, Int.reduceAdd, Int.reduceSub, Nat.reduceMul, Nat.reduceLT, Int.reduceToNat, t1, t2, t3, t4, y0, y1, y2, lal, hltI, hix, hle0, hle1, hld0, hld1, hv1.one, hv1.cells, hO.one, hO.cells, p1, p2, p3, p4, hy.one, hy.cells, afill]
          refine ((hO.keepLow hn1 hG1).new _).stepN (m := 1) (new := [aint lv[i].n, y]) (asrc_slc (c := [aint lv[i].n, y]) (by rw [new_get]; exact if_pos rfl) (by simp)) (by simp [hy.one, one_int]) (by omega) (by omega) ⟨by omega, by omega⟩ rfl fun x' G' r6 r7 r8 => ?_
          rw [new_next] at r6 r7
          have hGo : ∀ b, b < base → G'.get b = H2.get b := fun b hb => by
            rw [r8 b (by rw [new_next]; omega) (hO.notlow hb), new_get, if_neg (by omega)]; exact hG1 b (by omega)
          have v0 := (hGo _ (by omega)).trans x0
          have v1 := (hGo _ (by omega)).trans x1
          have v2 := (hGo _ (by omega)).trans x2
          simp -implicitDefEqProofs only [go_sem, Nat.reduceEqDiff, Nat.reduceAdd, Nat.reduceLeDiff, ↓reduceIte, reduceCtorEq, Int.reduceBEq, Int.reduceBNe, Int.reduceLT, Int.reduceLE, Int.reduceGT, Int.reduceGE, Int.reduceNeg, Int.reduceAdd, Int.reduceSub, Nat.reduceMul, Nat.reduceLT, Int.reduceToNat, t1, t2, t3, t4, v0, v1, v2, w3, r6.one, r6.cells, hO.one, hO.cells, e1, e2, e3, e4, e5, e6]
          refine ⟨by simp, Ext.set ⟨by have := hE2.1; omega, fun b hb => by rw [hGo b (by omega)]; exact hE2.2 b hb⟩ (by omega) _, G1.next + 1, _, _, by omega, by omega, r6.set (r6.notlow (by omega)) _, ?_, rfl⟩
          rw [List.take_succ_eq_append_getElem hi]
          refine LvsO.snoc ?_ ?_
          · exact hy.frame (by omega) (by omega) fun b q1 q2 => by rw [set_get, if_neg (by omega), r8 b (by rw [new_next]; omega) (hO.high (by omega)), new_get, if_neg (by omega)]
          · exact hL.frame (Nat.le_refl _) (by omega) fun b q1 q2 => by rw [set_get, if_neg (by omega)]; exact hGo b q2
        · rintro ⟨tm, H2⟩ ⟨t1, t2, t3, t4, hE2, x0, x1, base, x, l, hb1, hb2, hO, hL, x2⟩
          simp only at t1 t2 t3 t4 hE2 x0 x1 hb2 hO hL x2
          rw [List.take_length] at hL
          simp -implicitDefEqProofs only [go_sem, Nat.reduceEqDiff, Nat.reduceAdd, Nat.reduceLeDiff, ↓reduceIte, reduceCtorEq, Int.reduceBEq, Int.reduceBNe, Int.reduceLT, Int.reduceLE, Int.reduceGT, Int.reduceGE, Int.reduceNeg, Int.reduceAdd, Int.reduceSub, Nat.reduceMul, Nat.reduceLT, Int.reduceToNat, t1, t2, t3, t4, x0, x1, x2, lal, Int.lt_irrefl, p1, p2, p3, p4, hO.one, hO.cells]
          exact ⟨by omega, hE2, x, lvo_of hO ⟨hb1, hb2⟩ hL, rfl⟩
    · have m2 : ¬ f = 2 := fun h => c3 (.inl h)
      have m10 : ¬ f = 10 := fun h => c3 (.inr h)
      have hbt2 : bareT (.mk f n hid s lv ks) = .mk f 0 false zeroS [] [] := by
        simp only [bareT]
        rw [if_neg c1, if_neg c2, if_neg m10, if_neg c3]
      rw [hbt] at hbt2
      injection hbt2 with _ k1 k2 k3 k4 _
      have k1 := k1.symm; have k2 := k2.symm; have k3 := k3.symm; have k4 := k4.symm
      subst k1 k2 k3 k4
      simp -implicitDefEqProofs only [go_sem, Nat.reduceEqDiff, Nat.reduceAdd, Nat.reduceLeDiff, ↓reduceIte, reduceCtorEq, Int.reduceBEq, Int.reduceBNe, Int.reduceLT, Int.reduceLE, Int.reduceGT, Int.reduceGE, Int.reduceNeg, Int.reduceAdd, Int.reduceSub, Nat.reduceMul, Nat.reduceLT, Int.reduceToNat, hg0, hg1, hg2, p1, p2, p3, p4, e1, e2, e3, e4, e5, e6, bne' n1, bne' n11, bne' m2, bne' m10, bne' (fun h => c2 (.inl h)), bne' (fun h => c2 (.inr (.inl h))), bne' (fun h => c2 (.inr (.inr h)))]
      exact ⟨by omega, hE, nils, .inl ⟨rfl, rfl⟩, rfl⟩
  rintro ⟨tm, H1⟩ ⟨t1, t2, t3, hn1, hE1, x0, x1, ay, hL, x2⟩
  simp only at t1 t2 t3 hn1 hE1 x0 x1 hL x2
  simp -implicitDefEqProofs only [go_sem, Nat.reduceEqDiff, Nat.reduceAdd, Nat.reduceLeDiff, ↓reduceIte, reduceCtorEq, Int.reduceBEq, Int.reduceBNe, Int.reduceLT, Int.reduceLE, Int.reduceGT, Int.reduceGE, Int.reduceNeg, Int.reduceAdd, Int.reduceSub, Nat.reduceMul, Nat.reduceLT, Int.reduceToNat, t1, t2, t3]
  refine swp_range ks.length (fun i st => st.tm 1 = .ptr H.next 0 ∧ st.tm 2 = .ptr (H.next + 1) 0 ∧ st.tm 3 = .ptr (H.next + 1 + 1) 0 ∧ st.tm 5 = aint i ∧ H1.next ≤ st.heap.next ∧ Ext H st.heap ∧ st.heap.get H.next = some (.cells [aint f, aint n, abl hid, .v (.string s), lx, kx]) ∧ st.heap.get (H.next + 1) = some (.cells z6) ∧
    LvO st.heap (H.next + 3) H1.next blv ay ∧ ∃ x l, OutS st.heap H1.next 6 i l x ∧ KsX (cleanK (ks.take i)) l ∧ st.heap.get (H.next + 1 + 1) = some (.cells [aint f, aint bn, abl bh, .v (.string bs), ay, x])) ?_ ?_ ?_
  · refine ⟨?_, ?_, ?_, rfl, Nat.le_refl _, hE1, x0, x1, hL, _, [], .nil, rfl, x2⟩
    all_goals simp -implicitDefEqProofs only [go_sem, Nat.reduceEqDiff, Nat.reduceAdd, Nat.reduceLeDiff, ↓reduceIte, reduceCtorEq, Int.reduceBEq, Int.reduceBNe, Int.reduceLT, Int.reduceLE, Int.reduceGT, Int.reduceGE, Int.reduceNeg, Int.reduceAdd, Int.reduceSub, Nat.reduceMul, Nat.reduceLT, Int.reduceToNat, t1, t2, t3]
  · rintro i ⟨tm, H2⟩ hi ⟨t1, t2, t3, t5, hnx, hE2, x0, x1, hL2, x, l, hO, hX, x2⟩
    simp only at t1 t2 t3 t5 hnx hE2 x0 x1 hL2 hO x2
    have hcso : ∀ y ∈ cs, Old 0 y := by
      rcases hk1 with ⟨h, _⟩ | ⟨lo, ex, rfl, _⟩
      · omega
      · cases hkxo with | ro _ _ _ _ h => exact h
    have hltI : (i : Int) < (ks.length : Int) := by omega
    have hix := hk1.aix 6 hi
    obtain ⟨kc, hkc, hle, hld⟩ := hk2.load (List.getElem?_eq_getElem hi)
    have hkm := List.getElem_mem hi
    have hkP : TmP ks[i] kc := ⟨hkc, fun y hy => hcso y (by rw [← hld] at hy; exact List.mem_of_mem_drop (List.mem_of_mem_take hy))⟩
    obtain ⟨ux, vx, hk6, q1, q2, q3, q4, q5, q6, q7, q8⟩ := hkP.six
    have w3 : IntKind.i64.wrap ((i : Int) + 1) = (i : Int) + 1 := i64_ok _ (by omega)
    simp -implicitDefEqProofs only [go_sem, Nat.reduceEqDiff, Nat.reduceAdd, Nat.reduceLeDiff, ↓reduceIte, reduceCtorEq, Int.reduceBEq, Int.reduceBNe, Int.reduceLT, Int.reduceLE, Int.reduceGT, Int.reduceGE, Int.reduceNeg, Int.reduceAdd, Int.reduceSub, Nat.reduceMul, Nat.reduceLT, Int.reduceToNat, t1, t2, t3, t5, x0, x1, x2, kal, hltI, hix, hle, hld, hL2.one, hL2.cells, hO.one, hO.cells]
    refine i_callA (fs := []) (cs := []) (fid := 32) ?_ ?_ (ih ks[i] hkm (a5.mem _ hkm) _ hkP _) ?_
    · rfl
    · simp -implicitDefEqProofs only [go_sem, Nat.reduceEqDiff, Nat.reduceAdd, Nat.reduceLeDiff, ↓reduceIte, reduceCtorEq, Int.reduceBEq, Int.reduceBNe, Int.reduceLT, Int.reduceLE, Int.reduceGT, Int.reduceGE, Int.reduceNeg, Int.reduceAdd, Int.reduceSub, Nat.reduceMul, Nat.reduceLT, Int.reduceToNat]
    rintro y H3 ⟨⟨xc, rfl, hxc⟩, hHH⟩
    have hHH := hHH.symm
    subst hHH
    obtain ⟨zl, zk, hx6, z1, z2, z3, z4, z5, z6', z7, z8⟩ := hxc.six
    subst hx6
    simp -implicitDefEqProofs only [go_sem, Nat.reduceEqDiff, Nat.reduceAdd, Nat.reduceLeDiff, ↓reduceIte, reduceCtorEq, Int.reduceBEq, Int.reduceBNe, Int.reduceLT, Int.reduceLE, Int.reduceGT, Int.reduceGE, Int.reduceNeg, Int.reduceAdd, Int.reduceSub, Nat.reduceMul, Nat.reduceLT, Int.reduceToNat, t1, t2, t3, t5, x0, x1, x2, hL2.one, hL2.cells, hO.one, hO.cells, z1, z2, z3, z4, afill]
    refine (hO.new _).step (m := 1) (new := [aint (cleanT ks[i]).form, aint (cleanT ks[i]).n, abl (cleanT ks[i]).hid, .v (.string (cleanT ks[i]).name), zl, zk]) (asrc_slc (c := [aint (cleanT ks[i]).form, aint (cleanT ks[i]).n, abl (cleanT ks[i]).hid, .v (.string (cleanT ks[i]).name), zl, zk]) (by rw [new_get]; exact if_pos rfl) (by simp)) z8 (by omega) (by omega) ⟨by omega, by omega⟩ rfl (by rw [new_next]; omega) fun x' G' r6 r7 r8 => ?_
    rw [new_next] at r7
    have hGo : ∀ b, b < H1.next → G'.get b = H2.get b := fun b hb => by
      rw [r8 b (by rw [new_next]; omega) (hO.notlow (by omega)), new_get, if_neg (by omega)]
    have x2' := (hGo _ (by omega)).trans x2
    simp -implicitDefEqProofs only [go_sem, Nat.reduceEqDiff, Nat.reduceAdd, Nat.reduceLeDiff, ↓reduceIte, reduceCtorEq, Int.reduceBEq, Int.reduceBNe, Int.reduceLT, Int.reduceLE, Int.reduceGT, Int.reduceGE, Int.reduceNeg, Int.reduceAdd, Int.reduceSub, Nat.reduceMul, Nat.reduceLT, Int.reduceToNat, t3, t5, w3, x2', hL2.one, hL2.cells, hO.one, hO.cells, r6.one, r6.cells, e1, e2, e3, e4, e5, e6]
    refine ⟨t1, t2, by simp, by omega, Ext.set ⟨by have := hE2.1; omega, fun b hb => by rw [hGo b (by omega)]; exact hE2.2 b hb⟩ (by omega) _, (hGo _ (by omega)).trans x0, (hGo _ (by omega)).trans x1, hL2.frame fun b q1 q2 => by rw [set_get, if_neg (by omega)]; exact hGo b q2, _, _, r6.set (r6.notlow (by omega)) _, ?_, rfl⟩
    rw [cleanK_take ks i hi]
    exact hX.snoc hxc
  · rintro ⟨tm, H2⟩ ⟨t1, t2, t3, t5, hnx, hE2, x0, x1, hL2, x, l, hO, hX, x2⟩
    simp only at t1 t2 t3 t5 hnx hE2 x0 x1 hL2 hO x2
    rw [List.take_length] at hX
    simp -implicitDefEqProofs only [go_sem, Nat.reduceEqDiff, Nat.reduceAdd, Nat.reduceLeDiff, ↓reduceIte, reduceCtorEq, Int.reduceBEq, Int.reduceBNe, Int.reduceLT, Int.reduceLE, Int.reduceGT, Int.reduceGE, Int.reduceNeg, Int.reduceAdd, Int.reduceSub, Nat.reduceMul, Nat.reduceLT, Int.reduceToNat, t1, t2, t3, t5, x0, x1, x2, kal, Int.lt_irrefl, hL2.one, hL2.cells, hO.one, hO.cells, e1, e2, e3, e4, e5, e6]
    have hO2 := hO.set (b' := H.next + 1) (hO.notlow (by omega)) (.cells [aint f, aint bn, abl bh, .v (.string bs), ay, x])
    have hL3 := hL2.frame (G := H2.set (H.next + 1) (.cells [aint f, aint bn, abl bh, .v (.string bs), ay, x])) fun b q1 q2 => by rw [set_get, if_neg (by omega)]
    obtain ⟨zy, z1, z2⟩ := hL3.frz (N := H.next) (by omega)
    rw [← cleanK_len ks] at hO2
    obtain ⟨z, h3, h4⟩ := hO2.frzOld (N := H.next) (by omega) (fun y hy => (hX.old y hy).mono (Nat.zero_le _))
    exact ⟨hE2.set (by omega) _, _, FrzN.six (.keep _ (.v _)) (.keep _ (.v _)) (.keep _ (.v _)) (.keep _ (.v _)) z1 h3, _, rfl, tmp_mk z2 (SlK.of hX h4)⟩
end Go.Proofs.Ytooaiddfokbffaa.E

/- The code of functions, over abstract states. Conditions: none. -/
set_option maxRecDepth 100000
set_option linter.unusedVariables false
namespace Go.Proofs.Ytooaiddfokbffaa.E
open Go Go.Proofs
def c5 : AFn := ⟨[(.t 2)], (.seq (.ops [(.op (some 1) none (.box (.t 0))), (.op (some 2) none (.move (.c (.v (.bool false)))))]) (.seq (.ops [(.call (some 12) none (.c (.fn (.func 28) [] [])) []), (.op (some 3) none (.move (.t 12)))]) (.seq (.ops [(.op (some 13) none (.load true 6 (.t 1))), (.call (some 14) none (.c (.fn (.func 15) [] [])) [(.t 13)]), (.op (some 4) none (.move (.t 14)))]) (.seq (.seq (.ops [(.op (some 15) none (.move (.t 3))), (.op (some 16) none (.not (.t 15))), (.op (some 17) none (.move (.t 16))), (.op (some 18) (some (17, false)) (.move (.t 4))), (.op (some 19) none (.pick (.t 17) (.c (.v (.bool true))) (.t 18))), (.op (some 20) none (.move (.t 19))), (.op (some 21) (some (20, false)) (.load true 6 (.t 1))), (.call (some 22) (some (20, false)) (.c (.fn (.func 29) [] [])) [(.t 21)]), (.op (some 23) (some (20, false)) (.ibin .neq (.t 22) (.c (.v (.int .i64 0))))), (.op (some 24) none (.pick (.t 20) (.c (.v (.bool true))) (.t 23)))]) (.cond (.t 24) (.seq (.ops [(.op (some 25) none (.move (.t 3))), (.op (some 2) none (.move (.t 25)))]) .ret) .skip)) (.seq (.ops [(.op (some 27) none (.load true 6 (.t 1))), (.call (some 28) none (.c (.fn (.func 30) [] [])) [(.t 27)]), (.op (some 26) none (.move (.t 28))), (.op (some 29) none (.ext (.t 26) 0)), (.op (some 30) none (.ext (.t 26) 1)), (.op (some 31) none (.ext (.t 26) 2)), (.op (some 5) none (.alloc [(.v (.int .i64 0)), (.v (.int .i64 0)), (.v (.bool false)), (.v (.string (ByteArray.mk #[]))), (.v (.slice none 0 0)), (.v (.slice none 0 0))])), (.op none none (.store 6 (.t 5) (.t 29))), (.op (some 6) none (.move (.t 30))), (.op (some 7) none (.move (.t 31)))]) (.seq (.ops [(.op (some 33) none (.load true 6 (.t 1))), (.call (some 34) none (.c (.fn (.func 31) [] [])) [(.t 33)]), (.op (some 32) none (.move (.t 34))), (.op (some 35) none (.ext (.t 32) 0)), (.op (some 36) none (.ext (.t 32) 1)), (.op (some 37) none (.ext (.t 32) 2)), (.op (some 8) none (.alloc [(.v (.int .i64 0)), (.v (.int .i64 0)), (.v (.bool false)), (.v (.string (ByteArray.mk #[]))), (.v (.slice none 0 0)), (.v (.slice none 0 0))])), (.op none none (.store 6 (.t 8) (.t 35))), (.op (some 9) none (.move (.t 36))), (.op (some 10) none (.move (.t 37)))]) (.seq (.seq (.ops [(.op (some 38) none (.move (.t 7))), (.op (some 39) none (.len .slice (.t 38))), (.op (some 40) none (.move (.t 10))), (.op (some 41) none (.len .slice (.t 40))), (.op (some 42) none (.ibin .neq (.t 39) (.t 41)))]) (.cond (.t 42) (.seq (.ops [(.op (some 2) none (.move (.c (.v (.bool false)))))]) .ret) .skip)) (.seq (.seq (.ops [(.op (some 11) none (.move (.c (.v (.int .i64 0)))))]) (.block 0 (.loop (.seq (.seq (.ops [(.op (some 43) none (.move (.t 11))), (.op (some 44) none (.move (.t 10))), (.op (some 45) none (.len .slice (.t 44))), (.op (some 46) none (.ibin .lss (.t 43) (.t 45)))]) (.cond (.t 46) .skip (.exit 0))) (.seq (.block 1 (.seq (.draw [⟨(.op (some 49) none (.move (.t 10))), []⟩, ⟨(.op (some 50) none (.move (.t 11))), []⟩, ⟨(.op (some 51) none (.idx 1 (.t 49) (.t 50))), []⟩, ⟨(.op (some 52) none (.load false 1 (.t 51))), []⟩, ⟨(.op (some 53) none (.move (.t 7))), []⟩, ⟨(.op (some 54) none (.move (.t 11))), []⟩, ⟨(.op (some 55) none (.idx 1 (.t 53) (.t 54))), []⟩, ⟨(.op (some 56) none (.load false 1 (.t 55))), []⟩, ⟨(.op (some 57) none (.bbin true (.t 52) (.t 56))), []⟩]) (.cond (.t 57) (.seq (.ops [(.op (some 2) none (.move (.c (.v (.bool false)))))]) .ret) .skip))) (.ops [(.op (some 47) none (.move (.t 11))), (.op (some 48) none (.ibin .add (.t 47) (.c (.v (.int .i64 1))))), (.op (some 11) none (.move (.t 48)))])))))) (.seq (.draw [⟨(.op (some 58) none (.load true 6 (.t 5))), []⟩, ⟨(.op (some 59) none (.load true 6 (.t 8))), []⟩, ⟨(.call (some 60) none (.c (.fn (.func 32) [] [])) [(.t 59)]), [0]⟩, ⟨(.call (some 61) none (.c (.fn (.func 22) [] [])) [(.t 58), (.t 60)]), []⟩, ⟨(.op (some 62) none (.move (.t 61))), []⟩, ⟨(.op (some 63) (some (62, true)) (.move (.t 6))), []⟩, ⟨(.op (some 64) (some (62, true)) (.move (.t 9))), []⟩, ⟨(.call (some 65) (some (62, true)) (.c (.fn (.func 33) [] [])) [(.t 63), (.t 64)]), []⟩, ⟨(.op (some 66) none (.pick (.t 62) (.t 65) (.c (.v (.bool false))))), []⟩, ⟨(.op (some 2) none (.move (.t 66))), []⟩]) .ret)))))))))⟩
theorem cf5 : compFn Try.prog 5 [(12, [(0, []), (1, []), (2, []), (3, []), (4, []), (5, []), (6, []), (7, []), (8, [])]), (14, [(0, []), (1, []), (2, [0]), (3, []), (4, []), (5, []), (6, []), (7, []), (8, []), (9, [])])] = some c5 := by kernel_rfl
def c6 : AFn := ⟨[(.t 6)], (.seq (.ops [(.op (some 5) none (.box (.t 2))), (.op (some 6) none (.move (.c (.v (.bool false)))))]) (.seq (.ops [(.call (some 23) none (.c (.fn (.func 28) [] [])) []), (.op (some 7) none (.move (.t 23)))]) (.seq (.ops [(.op (some 24) none (.move (.t 0))), (.call (some 25) none (.c (.fn (.func 34) [] [])) [(.t 24)]), (.op (some 26) none (.move (.t 25))), (.op (some 27) (some (26, false)) (.load true 6 (.t 5))), (.call (some 28) (some (26, false)) (.c (.fn (.func 15) [] [])) [(.t 27)]), (.op (some 29) none (.pick (.t 26) (.c (.v (.bool true))) (.t 28))), (.op (some 8) none (.move (.t 29)))]) (.seq (.seq (.ops [(.op (some 30) none (.move (.t 7))), (.op (some 31) none (.not (.t 30))), (.op (some 32) none (.move (.t 31))), (.op (some 33) (some (32, false)) (.move (.t 8))), (.op (some 34) none (.pick (.t 32) (.c (.v (.bool true))) (.t 33))), (.op (some 35) none (.move (.t 34))), (.op (some 36) (some (35, false)) (.move (.t 0))), (.op (some 37) (some (35, false)) (.len .slice (.t 36))), (.op (some 38) (some (35, false)) (.ibin .gtr (.t 37) (.c (.v (.int .i64 20))))), (.op (some 39) none (.pick (.t 35) (.c (.v (.bool true))) (.t 38)))]) (.cond (.t 39) (.seq (.ops [(.op (some 40) none (.move (.t 7))), (.op (some 6) none (.move (.t 40)))]) .ret) .skip)) (.seq (.ops [(.op (some 42) none (.move (.t 0))), (.op (some 43) none (.move (.t 1))), (.op (some 44) none (.load true 6 (.t 5))), (.call (some 45) none (.c (.fn (.func 35) [] [])) [(.t 42), (.t 43), (.t 44)]), (.op (some 41) none (.move (.t 45))), (.op (some 46) none (.ext (.t 41) 0)), (.op (some 47) none (.ext (.t 41) 1)), (.op (some 9) none (.alloc [(.v (.int .i64 0)), (.v (.int .i64 0)), (.v (.bool false)), (.v (.string (ByteArray.mk #[]))), (.v (.slice none 0 0)), (.v (.slice none 0 0))])), (.op none none (.store 6 (.t 9) (.t 46))), (.op (some 10) none (.move (.t 47)))]) (.seq (.seq (.ops [(.op (some 48) none (.move (.t 10))), (.call (some 49) none (.c (.fn (.func 36) [] [])) [(.t 48)]), (.op (some 50) none (.ibin .neq (.t 49) (.c (.v (.int .i64 0)))))]) (.cond (.t 50) (.seq (.ops [(.op (some 6) none (.move (.c (.v (.bool true)))))]) .ret) .skip)) (.seq (.ops [(.op (some 52) none (.load true 6 (.t 9))), (.op (some 53) none (.move (.t 0))), (.op (some 54) none (.len .slice (.t 53))), (.call (some 55) none (.c (.fn (.func 37) [] [])) [(.t 52), (.t 54)]), (.op (some 51) none (.move (.t 55))), (.op (some 56) none (.ext (.t 51) 0)), (.op (some 57) none (.ext (.t 51) 1)), (.op (some 58) none (.ext (.t 51) 2)), (.op (some 59) none (.ext (.t 51) 3)), (.op (some 13) none (.alloc [(.v (.int .i64 0)), (.v (.int .i64 0)), (.v (.bool false)), (.v (.string (ByteArray.mk #[]))), (.v (.slice none 0 0)), (.v (.slice none 0 0))])), (.op (some 11) none (.move (.t 56))), (.op (some 12) none (.move (.t 57))), (.op none none (.store 6 (.t 13) (.t 58))), (.op (some 14) none (.move (.t 59)))]) (.seq (.seq (.draw [⟨(.op (some 60) none (.move (.t 14))), []⟩, ⟨(.op (some 61) none (.not (.t 60))), []⟩, ⟨(.op (some 62) none (.move (.t 61))), []⟩, ⟨(.op (some 63) (some (62, false)) (.move (.t 11))), []⟩, ⟨(.op (some 64) (some (62, false)) (.move (.t 0))), []⟩, ⟨(.call (some 65) (some (62, false)) (.c (.fn (.func 33) [] [])) [(.t 63), (.t 64)]), []⟩, ⟨(.op (some 66) (some (62, false)) (.not (.t 65))), []⟩, ⟨(.op (some 67) none (.pick (.t 62) (.c (.v (.bool true))) (.t 66))), []⟩, ⟨(.op (some 68) none (.move (.t 67))), []⟩, ⟨(.op (some 69) (some (68, false)) (.load true 6 (.t 13))), []⟩, ⟨(.op (some 70) (some (68, false)) (.load true 6 (.t 5))), []⟩, ⟨(.call (some 71) (some (68, false)) (.c (.fn (.func 32) [] [])) [(.t 70)]), [9]⟩, ⟨(.call (some 72) (some (68, false)) (.c (.fn (.func 22) [] [])) [(.t 69), (.t 71)]), []⟩, ⟨(.op (some 73) (some (68, false)) (.not (.t 72))), []⟩, ⟨(.op (some 74) none (.pick (.t 68) (.c (.v (.bool true))) (.t 73))), []⟩, ⟨(.op (some 75) none (.move (.t 74))), []⟩, ⟨(.op (some 76) (some (75, false)) (.move (.t 12))), []⟩, ⟨(.op (some 77) (some (75, false)) (.len .slice (.t 76))), []⟩, ⟨(.op (some 78) (some (75, false)) (.move (.t 0))), []⟩, ⟨(.op (some 79) (some (75, false)) (.len .slice (.t 78))), []⟩, ⟨(.op (some 80) (some (75, false)) (.ibin .neq (.t 77) (.t 79))), []⟩, ⟨(.op (some 81) none (.pick (.t 75) (.c (.v (.bool true))) (.t 80))), []⟩]) (.cond (.t 81) (.seq (.ops [(.op (some 6) none (.move (.c (.v (.bool false)))))]) .ret) .skip)) (.seq (.ops [(.op (some 83) none (.load true 6 (.t 5))), (.op (some 84) none (.move (.t 0))), (.op (some 85) none (.move (.t 1))), (.call (some 86) none (.c (.fn (.func 38) [] [])) [(.t 83), (.t 84), (.t 85)]), (.op (some 82) none (.move (.t 86))), (.op (some 87) none (.ext (.t 82) 0)), (.op (some 88) none (.ext (.t 82) 1)), (.op (some 15) none (.alloc [(.v (.int .i64 0)), (.v (.int .i64 0)), (.v (.bool false)), (.v (.string (ByteArray.mk #[]))), (.v (.slice none 0 0)), (.v (.slice none 0 0))])), (.op none none (.store 6 (.t 15) (.t 87))), (.op (some 16) none (.move (.t 88)))]) (.seq (.seq (.ops [(.op (some 89) none (.move (.t 16))), (.call (some 90) none (.c (.fn (.func 36) [] [])) [(.t 89)]), (.op (some 91) none (.ibin .neq (.t 90) (.c (.v (.int .i64 0)))))]) (.cond (.t 91) (.seq (.ops [(.op (some 6) none (.move (.c (.v (.bool true)))))]) .ret) .skip)) (.seq (.ops [(.op (some 93) none (.load true 6 (.t 15))), (.call (some 94) none (.c (.fn (.func 30) [] [])) [(.t 93)]), (.op (some 92) none (.move (.t 94))), (.op (some 95) none (.ext (.t 92) 0)), (.op (some 96) none (.ext (.t 92) 1)), (.op (some 97) none (.ext (.t 92) 2)), (.op (some 17) none (.alloc [(.v (.int .i64 0)), (.v (.int .i64 0)), (.v (.bool false)), (.v (.string (ByteArray.mk #[]))), (.v (.slice none 0 0)), (.v (.slice none 0 0))])), (.op none none (.store 6 (.t 17) (.t 95))), (.op (some 18) none (.move (.t 96))), (.op (some 19) none (.move (.t 97)))]) (.seq (.ops [(.op (some 99) none (.load true 6 (.t 5))), (.call (some 100) none (.c (.fn (.func 31) [] [])) [(.t 99)]), (.op (some 98) none (.move (.t 100))), (.op (some 101) none (.ext (.t 98) 0)), (.op (some 102) none (.ext (.t 98) 1)), (.op (some 103) none (.ext (.t 98) 2)), (.op (some 20) none (.alloc [(.v (.int .i64 0)), (.v (.int .i64 0)), (.v (.bool false)), (.v (.string (ByteArray.mk #[]))), (.v (.slice none 0 0)), (.v (.slice none 0 0))])), (.op none none (.store 6 (.t 20) (.t 101))), (.op (some 21) none (.move (.t 102))), (.op (some 22) none (.move (.t 103)))]) (.seq (.ops [(.op (some 104) none (.move (.t 18))), (.op (some 105) none (.len .slice (.t 104))), (.op (some 106) none (.move (.t 21))), (.op (some 107) none (.len .slice (.t 106))), (.op (some 108) none (.move (.t 0))), (.op (some 109) none (.len .slice (.t 108))), (.op (some 110) none (.ibin .add (.t 107) (.t 109))), (.op (some 111) none (.ibin .eql (.t 105) (.t 110))), (.op (some 112) none (.move (.t 111))), (.op (some 113) (some (112, true)) (.move (.t 18))), (.op (some 114) (some (112, true)) (.move (.t 21))), (.op (some 115) (some (112, true)) (.len .slice (.t 114))), (.op (some 116) (some (112, true)) (.slice 6 (.t 113) (some (.t 115)) none none)), (.op (some 117) (some (112, true)) (.move (.t 0))), (.call (some 118) (some (112, true)) (.c (.fn (.func 33) [] [])) [(.t 116), (.t 117)]), (.op (some 119) none (.pick (.t 112) (.t 118) (.c (.v (.bool false))))), (.op (some 6) none (.move (.t 119)))]) .ret)))))))))))))⟩
theorem cf6 : compFn Try.prog 6 [(9, [(0, []), (1, []), (2, []), (3, []), (4, []), (5, []), (6, []), (7, []), (8, []), (9, []), (10, []), (11, [9]), (12, []), (13, []), (14, []), (15, []), (16, []), (17, []), (18, []), (19, []), (20, []), (21, [])])] = some c6 := by kernel_rfl
def c28 : AFn := ⟨[(.t 0)], (.seq (.ops [(.op (some 0) none (.move (.c (.v (.bool false)))))]) (.seq (.ops [(.call (some 8) none (.c (.fn (.func 23) [] [])) [(.c (.v (.int .i64 0)))]), (.call (some 9) none (.c (.fn (.func 73) [] [])) [(.c (.v (.int .i64 0)))]), (.op (some 10) none (.buildS 6 2 [(.v (.int .i64 0)), (.v (.int .i64 0)), (.v (.bool false)), (.v (.string (ByteArray.mk #[]))), (.v (.slice none 0 0)), (.v (.slice none 0 0)), (.v (.int .i64 0)), (.v (.int .i64 0)), (.v (.bool false)), (.v (.string (ByteArray.mk #[]))), (.v (.slice none 0 0)), (.v (.slice none 0 0))] [(0, (6, (.t 8))), (6, (6, (.t 9)))])), (.call (some 11) none (.c (.fn (.func 73) [] [])) [(.c (.v (.int .i64 1)))]), (.call (some 12) none (.c (.fn (.func 35) [] [])) [(.t 10), (.c (.v (.slice none 0 0))), (.t 11)]), (.op (some 7) none (.move (.t 12))), (.op (some 13) none (.ext (.t 7) 0)), (.op (some 14) none (.ext (.t 7) 1)), (.op (some 1) none (.alloc [(.v (.int .i64 0)), (.v (.int .i64 0)), (.v (.bool false)), (.v (.string (ByteArray.mk #[]))), (.v (.slice none 0 0)), (.v (.slice none 0 0))])), (.op none none (.store 6 (.t 1) (.t 13))), (.op (some 2) none (.move (.t 14)))]) (.seq (.ops [(.op (some 16) none (.load true 6 (.t 1))), (.call (some 17) none (.c (.fn (.func 37) [] [])) [(.t 16), (.c (.v (.int .i64 2)))]), (.op (some 15) none (.move (.t 17))), (.op (some 18) none (.ext (.t 15) 0)), (.op (some 19) none (.ext (.t 15) 1)), (.op (some 20) none (.ext (.t 15) 2)), (.op (some 21) none (.ext (.t 15) 3)), (.op (some 5) none (.alloc [(.v (.int .i64 0)), (.v (.int .i64 0)), (.v (.bool false)), (.v (.string (ByteArray.mk #[]))), (.v (.slice none 0 0)), (.v (.slice none 0 0))])), (.op (some 3) none (.move (.t 18))), (.op (some 4) none (.move (.t 19))), (.op none none (.store 6 (.t 5) (.t 20))), (.op (some 6) none (.move (.t 21)))]) (.seq (.draw [⟨(.op (some 22) none (.move (.t 2))), []⟩, ⟨(.call (some 23) none (.c (.fn (.func 36) [] [])) [(.t 22)]), []⟩, ⟨(.op (some 24) none (.ibin .eql (.t 23) (.c (.v (.int .i64 0))))), []⟩, ⟨(.op (some 25) none (.move (.t 24))), []⟩, ⟨(.op (some 26) (some (25, true)) (.move (.t 6))), []⟩, ⟨(.op (some 27) none (.pick (.t 25) (.t 26) (.c (.v (.bool false))))), []⟩, ⟨(.op (some 28) none (.move (.t 27))), []⟩, ⟨(.op (some 29) (some (28, true)) (.move (.t 3))), []⟩, ⟨(.op (some 30) (some (28, true)) (.len .slice (.t 29))), []⟩, ⟨(.op (some 31) (some (28, true)) (.ibin .eql (.t 30) (.c (.v (.int .i64 2))))), []⟩, ⟨(.op (some 32) none (.pick (.t 28) (.t 31) (.c (.v (.bool false))))), []⟩, ⟨(.op (some 33) none (.move (.t 32))), []⟩, ⟨(.op (some 34) (some (33, true)) (.load true 6 (.t 5))), []⟩, ⟨(.call (some 35) (some (33, true)) (.c (.fn (.func 73) [] [])) [(.c (.v (.int .i64 1)))]), [12]⟩, ⟨(.call (some 36) (some (33, true)) (.c (.fn (.func 22) [] [])) [(.t 34), (.t 35)]), []⟩, ⟨(.op (some 37) none (.pick (.t 33) (.t 36) (.c (.v (.bool false))))), []⟩, ⟨(.op (some 38) none (.move (.t 37))), []⟩, ⟨(.op (some 39) (some (38, true)) (.move (.t 3))), []⟩, ⟨(.op (some 40) (some (38, true)) (.idx 6 (.t 39) (.c (.v (.int .i64 0))))), []⟩, ⟨(.op (some 41) (some (38, true)) (.load true 6 (.t 40))), []⟩, ⟨(.call (some 42) (some (38, true)) (.c (.fn (.func 23) [] [])) [(.c (.v (.int .i64 0)))]), [17, 18, 19]⟩, ⟨(.call (some 43) (some (38, true)) (.c (.fn (.func 22) [] [])) [(.t 41), (.t 42)]), []⟩, ⟨(.op (some 44) none (.pick (.t 38) (.t 43) (.c (.v (.bool false))))), []⟩, ⟨(.op (some 0) none (.move (.t 44))), []⟩]) .ret))))⟩
theorem cf28 : compFn Try.prog 28 [(3, [(0, []), (1, []), (2, []), (3, []), (4, []), (5, []), (6, []), (7, []), (8, []), (9, []), (10, []), (11, []), (12, []), (13, [12]), (14, []), (15, []), (16, []), (17, []), (18, []), (19, []), (20, [17, 18, 19]), (21, []), (22, []), (23, [])])] = some c28 := by kernel_rfl
def c30 : AFn := ⟨[(.c 2 6 true), (.t 3), (.t 4)], (.seq (.ops [(.op (some 1) none (.box (.t 0))), (.op (some 2) none (.alloc [(.v (.int .i64 0)), (.v (.int .i64 0)), (.v (.bool false)), (.v (.string (ByteArray.mk #[]))), (.v (.slice none 0 0)), (.v (.slice none 0 0))])), (.op (some 3) none (.move (.c (.v (.slice none 0 0))))), (.op (some 4) none (.move (.c (.v (.slice none 0 0)))))]) (.seq (.seq (.ops [(.op (some 10) none (.load true 6 (.t 1))), (.call (some 11) none (.c (.fn (.func 24) [] [])) [(.t 10)]), (.op (some 12) none (.ibin .neq (.t 11) (.c (.v (.int .i64 0)))))]) (.cond (.t 12) (.seq (.ops [(.op (some 13) none (.load true 6 (.t 1))), (.op none none (.store 6 (.t 2) (.t 13))), (.op (some 3) none (.move (.c (.v (.slice none 0 0))))), (.op (some 4) none (.move (.c (.v (.slice none 0 0)))))]) .ret) .skip)) (.seq (.ops [(.op (some 15) none (.load true 6 (.t 1))), (.call (some 16) none (.c (.fn (.func 88) [] [])) [(.t 15)]), (.op (some 14) none (.move (.t 16))), (.op (some 17) none (.ext (.t 14) 0)), (.op (some 18) none (.ext (.t 14) 1)), (.op (some 19) none (.ext (.t 14) 2)), (.op (some 5) none (.alloc [(.v (.int .i64 0)), (.v (.int .i64 0)), (.v (.bool false)), (.v (.string (ByteArray.mk #[]))), (.v (.slice none 0 0)), (.v (.slice none 0 0))])), (.op none none (.store 6 (.t 5) (.t 17))), (.op (some 6) none (.move (.t 18))), (.op (some 7) none (.move (.t 19)))]) (.seq (.seq (.ops [(.op (some 20) none (.move (.t 6))), (.op (some 21) none (.len .slice (.t 20))), (.op (some 22) none (.move (.c (.v (.int .i64 0)))))]) (.block 0 (.loop (.seq (.ops [(.op (some 23) none (.ibin .lss (.t 22) (.t 21)))]) (.seq (.cond (.t 23) .skip (.exit 0)) (.seq (.block 1 (.seq (.ops [(.op (some 24) none (.move (.t 22))), (.op (some 25) none (.idx 6 (.t 20) (.t 22))), (.op (some 26) none (.load true 6 (.t 25))), (.op (some 9) none (.alloc [(.v (.int .i64 0)), (.v (.int .i64 0)), (.v (.bool false)), (.v (.string (ByteArray.mk #[]))), (.v (.slice none 0 0)), (.v (.slice none 0 0))])), (.op (some 8) none (.move (.t 24))), (.op none none (.store 6 (.t 9) (.t 26)))]) (.ops [(.op (some 27) none (.move (.t 6))), (.op (some 28) none (.move (.t 8))), (.op (some 29) none (.load true 6 (.t 9))), (.call (some 30) none (.c (.fn (.func 76) [] [])) [(.t 29)]), (.op (some 31) none (.idx 6 (.t 27) (.t 28))), (.op none none (.store 6 (.t 31) (.t 30)))]))) (.ops [(.op (some 32) none (.ibin .add (.t 22) (.c (.v (.int .i64 1))))), (.op (some 22) none (.move (.t 32)))]))))))) (.seq (.ops [(.op (some 33) none (.load true 6 (.t 5))), (.call (some 34) none (.c (.fn (.func 76) [] [])) [(.t 33)]), (.op (some 35) none (.move (.t 6))), (.op (some 36) none (.move (.t 7))), (.op none none (.store 6 (.t 2) (.t 34))), (.op (some 3) none (.move (.t 35))), (.op (some 4) none (.move (.t 36)))]) .ret)))))⟩
theorem cf30 : compFn Try.prog 30 [] = some c30 := by kernel_rfl
def c31 : AFn := ⟨[(.c 2 6 true), (.t 3), (.t 4)], (.seq (.ops [(.op (some 1) none (.box (.t 0))), (.op (some 2) none (.alloc [(.v (.int .i64 0)), (.v (.int .i64 0)), (.v (.bool false)), (.v (.string (ByteArray.mk #[]))), (.v (.slice none 0 0)), (.v (.slice none 0 0))])), (.op (some 3) none (.move (.c (.v (.slice none 0 0))))), (.op (some 4) none (.move (.c (.v (.slice none 0 0)))))]) (.seq (.ops [(.op (some 5) none (.move (.c (.v (.int .i64 0)))))]) (.seq (.seq (.ops [(.op (some 10) none (.load true 6 (.t 1))), (.op (some 6) none (.alloc [(.v (.int .i64 0)), (.v (.int .i64 0)), (.v (.bool false)), (.v (.string (ByteArray.mk #[]))), (.v (.slice none 0 0)), (.v (.slice none 0 0))])), (.op none none (.store 6 (.t 6) (.t 10)))]) (.block 0 (.loop (.seq (.seq (.ops [(.op (some 11) none (.fld 0 (.t 6))), (.op (some 12) none (.load false 1 (.t 11))), (.op (some 13) none (.ibin .eql (.t 12) (.c (.v (.int .i64 5)))))]) (.cond (.t 13) .skip (.exit 0))) (.seq (.block 1 (.ops [(.op (some 18) none (.move (.t 5))), (.op (some 19) none (.ibin .add (.t 18) (.c (.v (.int .i64 1))))), (.op (some 5) none (.move (.t 19)))])) (.seq (.seq (.ops [(.op (some 20) none (.load true 6 (.t 6)))]) (.ops [(.op (some 6) none (.alloc [(.v (.int .i64 0)), (.v (.int .i64 0)), (.v (.bool false)), (.v (.string (ByteArray.mk #[]))), (.v (.slice none 0 0)), (.v (.slice none 0 0))])), (.op none none (.store 6 (.t 6) (.t 20)))])) (.ops [(.op (some 14) none (.fld 5 (.t 6))), (.op (some 15) none (.load false 1 (.t 14))), (.op (some 16) none (.idx 6 (.t 15) (.c (.v (.int .i64 0))))), (.op (some 17) none (.load true 6 (.t 16))), (.op none none (.store 6 (.t 6) (.t 17)))]))))))) (.seq (.ops [(.op (some 21) none (.move (.t 5))), (.op (some 22) none (.mks [(.v (.int .i64 0)), (.v (.int .i64 0)), (.v (.bool false)), (.v (.string (ByteArray.mk #[]))), (.v (.slice none 0 0)), (.v (.slice none 0 0))] 88 (.t 21) (.t 21))), (.op (some 7) none (.move (.t 22)))]) (.seq (.ops [(.op (some 23) none (.move (.t 5))), (.op (some 24) none (.mks [(.v (.bool false))] 1 (.t 23) (.t 23))), (.op (some 8) none (.move (.t 24)))]) (.seq (.seq (.ops [(.op (some 25) none (.move (.t 5))), (.op (some 26) none (.ibin .sub (.t 25) (.c (.v (.int .i64 1))))), (.op (some 9) none (.move (.t 26)))]) (.block 2 (.loop (.seq (.seq (.ops [(.op (some 27) none (.move (.t 9))), (.op (some 28) none (.ibin .geq (.t 27) (.c (.v (.int .i64 0)))))]) (.cond (.t 28) .skip (.exit 2))) (.seq (.block 3 (.seq (.ops [(.op (some 31) none (.move (.t 7))), (.op (some 32) none (.move (.t 9))), (.op (some 33) none (.fld 5 (.t 1))), (.op (some 34) none (.load false 1 (.t 33))), (.op (some 35) none (.idx 6 (.t 34) (.c (.v (.int .i64 1))))), (.op (some 36) none (.load true 6 (.t 35))), (.op (some 37) none (.idx 6 (.t 31) (.t 32))), (.op none none (.store 6 (.t 37) (.t 36)))]) (.seq (.ops [(.op (some 38) none (.move (.t 8))), (.op (some 39) none (.move (.t 9))), (.op (some 40) none (.fld 2 (.t 1))), (.op (some 41) none (.load false 1 (.t 40))), (.op (some 42) none (.idx 1 (.t 38) (.t 39))), (.op none none (.store 1 (.t 42) (.t 41)))]) (.ops [(.op (some 43) none (.fld 5 (.t 1))), (.op (some 44) none (.load false 1 (.t 43))), (.op (some 45) none (.idx 6 (.t 44) (.c (.v (.int .i64 0))))), (.op (some 46) none (.load true 6 (.t 45))), (.op none none (.store 6 (.t 1) (.t 46)))])))) (.ops [(.op (some 29) none (.move (.t 9))), (.op (some 30) none (.ibin .sub (.t 29) (.c (.v (.int .i64 1))))), (.op (some 9) none (.move (.t 30)))])))))) (.seq (.ops [(.op (some 47) none (.load true 6 (.t 1))), (.op (some 48) none (.move (.t 7))), (.op (some 49) none (.move (.t 8))), (.op none none (.store 6 (.t 2) (.t 47))), (.op (some 3) none (.move (.t 48))), (.op (some 4) none (.move (.t 49)))]) .ret)))))))⟩
theorem cf31 : compFn Try.prog 31 [] = some c31 := by kernel_rfl
def c33 : AFn := ⟨[(.t 4)], (.seq (.ops [(.op (some 4) none (.move (.c (.v (.bool false)))))]) (.seq (.seq (.ops [(.op (some 7) none (.move (.t 0))), (.op (some 8) none (.len .slice (.t 7))), (.op (some 9) none (.move (.t 1))), (.op (some 10) none (.len .slice (.t 9))), (.op (some 11) none (.ibin .neq (.t 8) (.t 10)))]) (.cond (.t 11) (.seq (.ops [(.op (some 4) none (.move (.c (.v (.bool false)))))]) .ret) .skip)) (.seq (.seq (.ops [(.op (some 5) none (.move (.c (.v (.int .i64 0)))))]) (.block 0 (.loop (.seq (.seq (.ops [(.op (some 12) none (.move (.t 5))), (.op (some 13) none (.move (.t 0))), (.op (some 14) none (.len .slice (.t 13))), (.op (some 15) none (.ibin .lss (.t 12) (.t 14)))]) (.cond (.t 15) .skip (.exit 0))) (.seq (.block 1 (.seq (.draw [⟨(.op (some 18) none (.move (.t 0))), []⟩, ⟨(.op (some 19) none (.move (.t 5))), []⟩, ⟨(.op (some 20) none (.idx 6 (.t 18) (.t 19))), []⟩, ⟨(.op (some 21) none (.load true 6 (.t 20))), []⟩, ⟨(.op (some 22) none (.move (.t 1))), []⟩, ⟨(.op (some 23) none (.move (.t 5))), []⟩, ⟨(.op (some 24) none (.idx 6 (.t 22) (.t 23))), []⟩, ⟨(.op (some 25) none (.load true 6 (.t 24))), []⟩, ⟨(.call (some 26) none (.c (.fn (.func 32) [] [])) [(.t 25)]), [0, 1, 2, 3]⟩, ⟨(.call (some 27) none (.c (.fn (.func 22) [] [])) [(.t 21), (.t 26)]), []⟩, ⟨(.op (some 6) none (.move (.t 27))), []⟩]) (.seq (.ops [(.op (some 28) none (.move (.t 6))), (.op (some 29) none (.not (.t 28)))]) (.cond (.t 29) (.seq (.ops [(.op (some 4) none (.move (.c (.v (.bool false)))))]) .ret) .skip)))) (.ops [(.op (some 16) none (.move (.t 5))), (.op (some 17) none (.ibin .add (.t 16) (.c (.v (.int .i64 1))))), (.op (some 5) none (.move (.t 17)))])))))) (.seq (.ops [(.op (some 4) none (.move (.c (.v (.bool true)))))]) .ret))))⟩
theorem cf33 : compFn Try.prog 33 [(6, [(0, []), (1, []), (2, []), (3, []), (4, []), (5, []), (6, []), (7, []), (8, [0, 1, 2, 3]), (9, []), (10, [])])] = some c33 := by kernel_rfl
def c34 : AFn := ⟨[(.t 2)], (.seq (.ops [(.op (some 2) none (.move (.c (.v (.bool false)))))]) (.seq (.seq (.ops [(.op (some 5) none (.move (.t 0))), (.op (some 6) none (.len .slice (.t 5))), (.op (some 7) none (.ibin .gtr (.t 6) (.c (.v (.int .i64 100)))))]) (.cond (.t 7) (.seq (.ops [(.op (some 2) none (.move (.c (.v (.bool true)))))]) .ret) .skip)) (.seq (.seq (.ops [(.op (some 3) none (.move (.c (.v (.int .i64 0)))))]) (.block 0 (.loop (.seq (.seq (.ops [(.op (some 8) none (.move (.t 3))), (.op (some 9) none (.move (.t 0))), (.op (some 10) none (.len .slice (.t 9))), (.op (some 11) none (.ibin .lss (.t 8) (.t 10)))]) (.cond (.t 11) .skip (.exit 0))) (.seq (.block 1 (.seq (.ops [(.op (some 14) none (.move (.t 0))), (.op (some 15) none (.move (.t 3))), (.op (some 16) none (.idx 6 (.t 14) (.t 15))), (.op (some 17) none (.load true 6 (.t 16))), (.call (some 18) none (.c (.fn (.func 15) [] [])) [(.t 17)]), (.op (some 4) none (.move (.t 18)))]) (.seq (.ops [(.op (some 19) none (.move (.t 4)))]) (.cond (.t 19) (.seq (.ops [(.op (some 2) none (.move (.c (.v (.bool true)))))]) .ret) .skip)))) (.ops [(.op (some 12) none (.move (.t 3))), (.op (some 13) none (.ibin .add (.t 12) (.c (.v (.int .i64 1))))), (.op (some 3) none (.move (.t 13)))])))))) (.seq (.ops [(.op (some 2) none (.move (.c (.v (.bool false)))))]) .ret))))⟩
theorem cf34 : compFn Try.prog 34 [] = some c34 := by kernel_rfl
def c35 : AFn := ⟨[(.c 6 6 true), (.t 7)], (.seq (.ops [(.op (some 5) none (.box (.t 2))), (.op (some 6) none (.alloc [(.v (.int .i64 0)), (.v (.int .i64 0)), (.v (.bool false)), (.v (.string (ByteArray.mk #[]))), (.v (.slice none 0 0)), (.v (.slice none 0 0))])), (.op (some 7) none (.move (.c (.v (.int .i64 0)))))]) (.seq (.ops [(.op (some 8) none (.move (.t 0))), (.op (some 9) none (.move (.t 1))), (.op (some 10) none (.load true 6 (.t 5))), (.call (some 11) none (.c (.fn (.func 89) [] [])) [(.c (.v (.int .i64 3))), (.t 8), (.t 9), (.t 10)]), (.op (some 12) none (.ext (.t 11) 0)), (.op (some 13) none (.ext (.t 11) 1)), (.op none none (.store 6 (.t 6) (.t 12))), (.op (some 7) none (.move (.t 13)))]) .ret))⟩
theorem cf35 : compFn Try.prog 35 [] = some c35 := by kernel_rfl
def c36 : AFn := ⟨[(.t 2)], (.seq (.ops [(.op (some 2) none (.move (.c (.v (.int .i64 0)))))]) (.seq (.ops [(.op (some 3) none (.move (.t 0))), (.op (some 2) none (.move (.t 3)))]) .ret))⟩
theorem cf36 : compFn Try.prog 36 [] = some c36 := by kernel_rfl
def c37 : AFn := ⟨[(.t 4), (.t 5), (.c 6 6 true), (.t 7)], (.seq (.ops [(.op (some 2) none (.box (.t 0))), (.op (some 4) none (.move (.c (.v (.slice none 0 0))))), (.op (some 5) none (.move (.c (.v (.slice none 0 0))))), (.op (some 6) none (.alloc [(.v (.int .i64 0)), (.v (.int .i64 0)), (.v (.bool false)), (.v (.string (ByteArray.mk #[]))), (.v (.slice none 0 0)), (.v (.slice none 0 0))])), (.op (some 7) none (.move (.c (.v (.bool false)))))]) (.seq (.seq (.ops [(.op (some 10) none (.move (.t 1))), (.op (some 11) none (.ibin .lss (.t 10) (.c (.v (.int .i64 0))))), (.op (some 12) none (.move (.t 11))), (.op (some 13) (some (12, false)) (.load true 6 (.t 2))), (.call (some 14) (some (12, false)) (.c (.fn (.func 24) [] [])) [(.t 13)]), (.op (some 15) (some (12, false)) (.ibin .neq (.t 14) (.c (.v (.int .i64 0))))), (.op (some 16) none (.pick (.t 12) (.c (.v (.bool true))) (.t 15)))]) (.cond (.t 16) (.seq (.ops [(.op (some 17) none (.build [(.v (.int .i64 0)), (.v (.int .i64 0)), (.v (.bool false)), (.v (.string (ByteArray.mk #[]))), (.v (.slice none 0 0)), (.v (.slice none 0 0))] [])), (.op (some 4) none (.move (.c (.v (.slice none 0 0))))), (.op (some 5) none (.move (.c (.v (.slice none 0 0))))), (.op none none (.store 6 (.t 6) (.t 17))), (.op (some 7) none (.move (.c (.v (.bool false)))))]) .ret) .skip)) (.seq (.ops [(.op (some 8) none (.move (.c (.v (.slice none 0 0)))))]) (.seq (.ops [(.op (some 9) none (.move (.c (.v (.slice none 0 0)))))]) (.seq (.seq (.ops [(.op (some 18) none (.move (.t 1))), (.op (some 19) none (.move (.c (.v (.int .i64 0)))))]) (.block 0 (.loop (.seq (.ops [(.op (some 20) none (.ibin .lss (.t 19) (.t 18)))]) (.seq (.cond (.t 20) .skip (.exit 0)) (.seq (.block 1 (.seq (.seq (.ops [(.op (some 21) none (.fld 0 (.t 2))), (.op (some 22) none (.load false 1 (.t 21))), (.op (some 23) none (.ibin .neq (.t 22) (.c (.v (.int .i64 3)))))]) (.cond (.t 23) (.seq (.ops [(.op (some 24) none (.build [(.v (.int .i64 0)), (.v (.int .i64 0)), (.v (.bool false)), (.v (.string (ByteArray.mk #[]))), (.v (.slice none 0 0)), (.v (.slice none 0 0))] [])), (.op (some 4) none (.move (.c (.v (.slice none 0 0))))), (.op (some 5) none (.move (.c (.v (.slice none 0 0))))), (.op none none (.store 6 (.t 6) (.t 24))), (.op (some 7) none (.move (.c (.v (.bool false)))))]) .ret) .skip)) (.seq (.draw [⟨(.op (some 25) none (.move (.t 8))), []⟩, ⟨(.op (some 26) none (.fld 5 (.t 2))), []⟩, ⟨(.op (some 27) none (.load false 1 (.t 26))), []⟩, ⟨(.op (some 28) none (.idx 6 (.t 27) (.c (.v (.int .i64 0))))), []⟩, ⟨(.op (some 29) none (.load true 6 (.t 28))), []⟩, ⟨(.op (some 33) none (.move (.t 9))), []⟩, ⟨(.op (some 34) none (.fld 2 (.t 2))), []⟩, ⟨(.op (some 35) none (.load false 1 (.t 34))), []⟩, ⟨(.op (some 36) none (.buildS 1 1 [(.v (.bool false))] [(0, (1, (.t 35)))])), []⟩, ⟨(.call (some 30) none (.c (.fn (.func 76) [] [])) [(.t 29)]), [0, 5, 6, 7, 8]⟩, ⟨(.op (some 31) none (.buildS 6 1 [(.v (.int .i64 0)), (.v (.int .i64 0)), (.v (.bool false)), (.v (.string (ByteArray.mk #[]))), (.v (.slice none 0 0)), (.v (.slice none 0 0))] [(0, (6, (.t 30)))])), []⟩, ⟨(.op (some 32) none (.append 6 88 (.t 25) (.t 31))), [5, 6, 7, 8]⟩, ⟨(.op (some 37) none (.append 1 1 (.t 33) (.t 36))), []⟩, ⟨(.op (some 8) none (.move (.t 32))), []⟩, ⟨(.op (some 9) none (.move (.t 37))), []⟩]) (.ops [(.op (some 38) none (.fld 5 (.t 2))), (.op (some 39) none (.load false 1 (.t 38))), (.op (some 40) none (.idx 6 (.t 39) (.c (.v (.int .i64 1))))), (.op (some 41) none (.load true 6 (.t 40))), (.op none none (.store 6 (.t 2) (.t 41)))])))) (.ops [(.op (some 42) none (.ibin .add (.t 19) (.c (.v (.int .i64 1))))), (.op (some 19) none (.move (.t 42)))]))))))) (.seq (.ops [(.op (some 43) none (.move (.t 8))), (.op (some 44) none (.move (.t 9))), (.op (some 45) none (.load true 6 (.t 2))), (.call (some 46) none (.c (.fn (.func 76) [] [])) [(.t 45)]), (.op (some 4) none (.move (.t 43))), (.op (some 5) none (.move (.t 44))), (.op none none (.store 6 (.t 6) (.t 46))), (.op (some 7) none (.move (.c (.v (.bool true)))))]) .ret))))))⟩
theorem cf37 : compFn Try.prog 37 [(9, [(0, []), (1, []), (2, []), (3, []), (4, []), (8, []), (9, []), (10, []), (11, []), (5, [0, 5, 6, 7, 8]), (6, []), (7, [5, 6, 7, 8]), (12, []), (13, []), (14, [])])] = some c37 := by kernel_rfl
def c38 : AFn := ⟨[(.c 6 6 true), (.t 7)], (.seq (.ops [(.op (some 3) none (.box (.t 0))), (.op (some 6) none (.alloc [(.v (.int .i64 0)), (.v (.int .i64 0)), (.v (.bool false)), (.v (.string (ByteArray.mk #[]))), (.v (.slice none 0 0)), (.v (.slice none 0 0))])), (.op (some 7) none (.move (.c (.v (.int .i64 0)))))]) (.seq (.seq (.ops [(.op (some 13) none (.move (.t 1))), (.op (some 14) none (.len .slice (.t 13))), (.op (some 15) none (.ibin .gtr (.t 14) (.c (.v (.int .i64 60)))))]) (.cond (.t 15) (.seq (.ops [(.op (some 16) none (.build [(.v (.int .i64 0)), (.v (.int .i64 0)), (.v (.bool false)), (.v (.string (ByteArray.mk #[]))), (.v (.slice none 0 0)), (.v (.slice none 0 0))] [])), (.op none none (.store 6 (.t 6) (.t 16))), (.op (some 7) none (.move (.c (.v (.int .i64 2)))))]) .ret) .skip)) (.seq (.seq (.draw [⟨(.op (some 17) none (.move (.t 1))), []⟩, ⟨(.op (some 18) none (.move (.t 1))), []⟩, ⟨(.op (some 19) none (.len .slice (.t 18))), []⟩, ⟨(.op (some 20) none (.move (.t 1))), []⟩, ⟨(.op (some 21) none (.len .slice (.t 20))), []⟩, ⟨(.op (some 22) none (.slice 6 (.t 17) none (some (.t 19)) (some (.t 21)))), []⟩, ⟨(.op (some 23) none (.load true 6 (.t 3))), []⟩, ⟨(.op (some 24) none (.buildS 6 1 [(.v (.int .i64 0)), (.v (.int .i64 0)), (.v (.bool false)), (.v (.string (ByteArray.mk #[]))), (.v (.slice none 0 0)), (.v (.slice none 0 0))] [(0, (6, (.t 23)))])), []⟩, ⟨(.op (some 25) none (.append 6 88 (.t 22) (.t 24))), []⟩, ⟨(.call (some 26) none (.c (.fn (.func 90) [] [])) [(.t 25)]), []⟩, ⟨(.op (some 8) none (.move (.t 26))), []⟩]) (.seq (.ops [(.op (some 27) none (.move (.t 8))), (.op (some 28) none (.ibin .neq (.t 27) (.c (.v (.int .i64 0)))))]) (.cond (.t 28) (.seq (.ops [(.op (some 29) none (.build [(.v (.int .i64 0)), (.v (.int .i64 0)), (.v (.bool false)), (.v (.string (ByteArray.mk #[]))), (.v (.slice none 0 0)), (.v (.slice none 0 0))] [])), (.op (some 30) none (.move (.t 8))), (.op none none (.store 6 (.t 6) (.t 29))), (.op (some 7) none (.move (.t 30)))]) .ret) .skip))) (.seq (.ops [(.op (some 31) none (.move (.t 2))), (.call (some 32) none (.c (.fn (.func 91) [] [])) [(.t 31)]), (.op (some 9) none (.move (.t 32)))]) (.seq (.seq (.ops [(.op (some 33) none (.move (.t 1))), (.op (some 34) none (.len .slice (.t 33))), (.op (some 35) none (.move (.c (.v (.int .i64 0)))))]) (.block 0 (.loop (.seq (.ops [(.op (some 36) none (.ibin .lss (.t 35) (.t 34)))]) (.seq (.cond (.t 36) .skip (.exit 0)) (.seq (.block 1 (.seq (.ops [(.op (some 37) none (.move (.t 35))), (.op (some 38) none (.idx 6 (.t 33) (.t 35))), (.op (some 39) none (.load true 6 (.t 38))), (.op (some 11) none (.alloc [(.v (.int .i64 0)), (.v (.int .i64 0)), (.v (.bool false)), (.v (.string (ByteArray.mk #[]))), (.v (.slice none 0 0)), (.v (.slice none 0 0))])), (.op (some 10) none (.move (.t 37))), (.op none none (.store 6 (.t 11) (.t 39)))]) (.draw [⟨(.op (some 40) none (.move (.t 9))), []⟩, ⟨(.op (some 41) none (.move (.t 10))), []⟩, ⟨(.op (some 43) none (.load true 6 (.t 3))), []⟩, ⟨(.op (some 44) none (.load true 6 (.t 11))), []⟩, ⟨(.op (some 45) none (.buildS 6 2 [(.v (.int .i64 0)), (.v (.int .i64 0)), (.v (.bool false)), (.v (.string (ByteArray.mk #[]))), (.v (.slice none 0 0)), (.v (.slice none 0 0)), (.v (.int .i64 0)), (.v (.int .i64 0)), (.v (.bool false)), (.v (.string (ByteArray.mk #[]))), (.v (.slice none 0 0)), (.v (.slice none 0 0))] [(0, (6, (.t 43))), (6, (6, (.t 44)))])), []⟩, ⟨(.call (some 42) none (.t 40) [(.t 41)]), [2, 3, 4]⟩, ⟨(.op (some 46) none (.build [(.v (.int .i64 0)), (.v (.int .i64 0)), (.v (.bool false)), (.v (.string (ByteArray.mk #[]))), (.v (.slice none 0 0)), (.v (.slice none 0 0))] [(0, (1, (.c (.v (.int .i64 5))))), (2, (1, (.t 42))), (5, (1, (.t 45)))])), []⟩, ⟨(.op none none (.store 6 (.t 3) (.t 46))), []⟩]))) (.ops [(.op (some 47) none (.ibin .add (.t 35) (.c (.v (.int .i64 1))))), (.op (some 35) none (.move (.t 47)))]))))))) (.seq (.seq (.ops [(.op (some 48) none (.load true 6 (.t 3))), (.call (some 49) none (.c (.fn (.func 24) [] [])) [(.t 48)]), (.op (some 12) none (.move (.t 49)))]) (.seq (.ops [(.op (some 50) none (.move (.t 12))), (.op (some 51) none (.ibin .neq (.t 50) (.c (.v (.int .i64 0)))))]) (.cond (.t 51) (.seq (.ops [(.op (some 52) none (.build [(.v (.int .i64 0)), (.v (.int .i64 0)), (.v (.bool false)), (.v (.string (ByteArray.mk #[]))), (.v (.slice none 0 0)), (.v (.slice none 0 0))] [])), (.op (some 53) none (.move (.t 12))), (.op none none (.store 6 (.t 6) (.t 52))), (.op (some 7) none (.move (.t 53)))]) .ret) .skip))) (.seq (.ops [(.op (some 54) none (.load true 6 (.t 3))), (.call (some 55) none (.c (.fn (.func 76) [] [])) [(.t 54)]), (.op none none (.store 6 (.t 6) (.t 55))), (.op (some 7) none (.move (.c (.v (.int .i64 0)))))]) .ret)))))))⟩
theorem cf38 : compFn Try.prog 38 [(3, [(0, []), (1, []), (2, []), (3, []), (4, []), (5, []), (6, []), (7, []), (8, []), (9, []), (10, [])]), (10, [(0, []), (1, []), (3, []), (4, []), (5, []), (2, [2, 3, 4]), (6, []), (7, [])])] = some c38 := by kernel_rfl
def c88 : AFn := ⟨[(.c 2 6 true), (.t 3), (.t 4)], (.seq (.ops [(.op (some 1) none (.box (.t 0))), (.op (some 2) none (.alloc [(.v (.int .i64 0)), (.v (.int .i64 0)), (.v (.bool false)), (.v (.string (ByteArray.mk #[]))), (.v (.slice none 0 0)), (.v (.slice none 0 0))])), (.op (some 3) none (.move (.c (.v (.slice none 0 0))))), (.op (some 4) none (.move (.c (.v (.slice none 0 0)))))]) (.seq (.ops [(.op (some 5) none (.move (.c (.v (.slice none 0 0)))))]) (.seq (.ops [(.op (some 6) none (.move (.c (.v (.slice none 0 0)))))]) (.seq (.block 0 (.loop (.seq (.seq (.ops [(.op (some 7) none (.fld 0 (.t 1))), (.op (some 8) none (.load false 1 (.t 7))), (.op (some 9) none (.ibin .eql (.t 8) (.c (.v (.int .i64 5)))))]) (.cond (.t 9) .skip (.exit 0))) (.block 1 (.seq (.draw [⟨(.op (some 10) none (.move (.t 5))), []⟩, ⟨(.op (some 11) none (.fld 5 (.t 1))), []⟩, ⟨(.op (some 12) none (.load false 1 (.t 11))), []⟩, ⟨(.op (some 13) none (.idx 6 (.t 12) (.c (.v (.int .i64 1))))), []⟩, ⟨(.op (some 14) none (.load true 6 (.t 13))), []⟩, ⟨(.op (some 15) none (.buildS 6 1 [(.v (.int .i64 0)), (.v (.int .i64 0)), (.v (.bool false)), (.v (.string (ByteArray.mk #[]))), (.v (.slice none 0 0)), (.v (.slice none 0 0))] [(0, (6, (.t 14)))])), []⟩, ⟨(.op (some 17) none (.move (.t 6))), []⟩, ⟨(.op (some 18) none (.fld 2 (.t 1))), []⟩, ⟨(.op (some 19) none (.load false 1 (.t 18))), []⟩, ⟨(.op (some 20) none (.buildS 1 1 [(.v (.bool false))] [(0, (1, (.t 19)))])), []⟩, ⟨(.op (some 16) none (.append 6 88 (.t 10) (.t 15))), [6, 7, 8, 9]⟩, ⟨(.op (some 21) none (.append 1 1 (.t 17) (.t 20))), []⟩, ⟨(.op (some 5) none (.move (.t 16))), []⟩, ⟨(.op (some 6) none (.move (.t 21))), []⟩]) (.ops [(.op (some 22) none (.fld 5 (.t 1))), (.op (some 23) none (.load false 1 (.t 22))), (.op (some 24) none (.idx 6 (.t 23) (.c (.v (.int .i64 0))))), (.op (some 25) none (.load true 6 (.t 24))), (.op none none (.store 6 (.t 1) (.t 25)))])))))) (.seq (.ops [(.op (some 26) none (.move (.t 5))), (.call (some 27) none (.c (.fn (.func 133) [] [])) [(.t 26)])]) (.seq (.ops [(.op (some 28) none (.move (.t 6))), (.call (some 29) none (.c (.fn (.func 134) [] [])) [(.t 28)])]) (.seq (.ops [(.op (some 30) none (.load true 6 (.t 1))), (.op (some 31) none (.move (.t 5))), (.op (some 32) none (.move (.t 6))), (.op none none (.store 6 (.t 2) (.t 30))), (.op (some 3) none (.move (.t 31))), (.op (some 4) none (.move (.t 32)))]) .ret)))))))⟩
theorem cf88 : compFn Try.prog 88 [(4, [(0, []), (1, []), (2, []), (3, []), (4, []), (5, []), (7, []), (8, []), (9, []), (10, []), (6, [6, 7, 8, 9]), (11, []), (12, []), (13, [])])] = some c88 := by kernel_rfl
def c90 : AFn := ⟨[(.t 2)], (.seq (.ops [(.op (some 2) none (.move (.c (.v (.int .i64 0)))))]) (.seq (.seq (.ops [(.op (some 6) none (.move (.t 0))), (.op (some 7) none (.len .slice (.t 6))), (.op (some 8) none (.move (.c (.v (.int .i64 0)))))]) (.block 0 (.loop (.seq (.ops [(.op (some 9) none (.ibin .lss (.t 8) (.t 7)))]) (.seq (.cond (.t 9) .skip (.exit 0)) (.seq (.block 1 (.seq (.ops [(.op (some 10) none (.idx 6 (.t 6) (.t 8))), (.op (some 11) none (.load true 6 (.t 10))), (.op (some 4) none (.alloc [(.v (.int .i64 0)), (.v (.int .i64 0)), (.v (.bool false)), (.v (.string (ByteArray.mk #[]))), (.v (.slice none 0 0)), (.v (.slice none 0 0))])), (.op none none (.store 6 (.t 4) (.t 11)))]) (.seq (.ops [(.op (some 12) none (.load true 6 (.t 4))), (.call (some 13) none (.c (.fn (.func 24) [] [])) [(.t 12)]), (.op (some 5) none (.move (.t 13)))]) (.seq (.ops [(.op (some 14) none (.move (.t 5))), (.op (some 15) none (.ibin .neq (.t 14) (.c (.v (.int .i64 0)))))]) (.cond (.t 15) (.seq (.ops [(.op (some 16) none (.move (.t 5))), (.op (some 2) none (.move (.t 16)))]) .ret) .skip))))) (.ops [(.op (some 17) none (.ibin .add (.t 8) (.c (.v (.int .i64 1))))), (.op (some 8) none (.move (.t 17)))]))))))) (.seq (.ops [(.op (some 2) none (.move (.c (.v (.int .i64 0)))))]) .ret)))⟩
theorem cf90 : compFn Try.prog 90 [] = some c90 := by kernel_rfl
def c91 : AFn := ⟨[(.t 2)], (.seq (.ops [(.op (some 1) none (.box (.t 0))), (.op (some 2) none (.move (.c (.v .nilFunc))))]) (.seq (.ops [(.op (some 3) none (.func (.func 137) [] [(.t 1)])), (.op (some 2) none (.move (.t 3)))]) .ret))⟩
theorem cf91 : compFn Try.prog 91 [] = some c91 := by kernel_rfl
def c133 : AFn := ⟨[], (.seq (.ops [(.op (some 4) none (.move (.t 0))), (.op (some 5) none (.len .slice (.t 4))), (.op (some 6) none (.ibin .sub (.t 5) (.c (.v (.int .i64 1))))), (.op (some 2) none (.move (.c (.v (.int .i64 0))))), (.op (some 3) none (.move (.t 6)))]) (.block 0 (.loop (.seq (.seq (.ops [(.op (some 7) none (.move (.t 2))), (.op (some 8) none (.move (.t 3))), (.op (some 9) none (.ibin .lss (.t 7) (.t 8)))]) (.cond (.t 9) .skip (.exit 0))) (.seq (.block 1 (.draw [⟨(.op (some 14) none (.move (.t 0))), []⟩, ⟨(.op (some 15) none (.move (.t 2))), []⟩, ⟨(.op (some 16) none (.move (.t 0))), []⟩, ⟨(.op (some 17) none (.move (.t 3))), []⟩, ⟨(.op (some 18) none (.move (.t 0))), []⟩, ⟨(.op (some 19) none (.move (.t 3))), []⟩, ⟨(.op (some 20) none (.idx 6 (.t 18) (.t 19))), []⟩, ⟨(.op (some 21) none (.load true 6 (.t 20))), []⟩, ⟨(.op (some 22) none (.move (.t 0))), []⟩, ⟨(.op (some 23) none (.move (.t 2))), []⟩, ⟨(.op (some 24) none (.idx 6 (.t 22) (.t 23))), []⟩, ⟨(.op (some 25) none (.load true 6 (.t 24))), []⟩, ⟨(.op (some 26) none (.idx 6 (.t 14) (.t 15))), []⟩, ⟨(.op none none (.store 6 (.t 26) (.t 21))), [2, 3]⟩, ⟨(.op (some 27) none (.idx 6 (.t 16) (.t 17))), []⟩, ⟨(.op none none (.store 6 (.t 27) (.t 25))), []⟩])) (.ops [(.op (some 10) none (.move (.t 2))), (.op (some 11) none (.ibin .add (.t 10) (.c (.v (.int .i64 1))))), (.op (some 12) none (.move (.t 3))), (.op (some 13) none (.ibin .sub (.t 12) (.c (.v (.int .i64 1))))), (.op (some 2) none (.move (.t 11))), (.op (some 3) none (.move (.t 13)))]))))))⟩
theorem cf133 : compFn Try.prog 133 [(3, [(0, []), (1, []), (2, []), (3, []), (4, []), (5, []), (6, []), (7, []), (8, []), (9, []), (10, []), (11, []), (12, []), (13, [2, 3]), (14, []), (15, [])])] = some c133 := by kernel_rfl
def c134 : AFn := ⟨[], (.seq (.ops [(.op (some 4) none (.move (.t 0))), (.op (some 5) none (.len .slice (.t 4))), (.op (some 6) none (.ibin .sub (.t 5) (.c (.v (.int .i64 1))))), (.op (some 2) none (.move (.c (.v (.int .i64 0))))), (.op (some 3) none (.move (.t 6)))]) (.block 0 (.loop (.seq (.seq (.ops [(.op (some 7) none (.move (.t 2))), (.op (some 8) none (.move (.t 3))), (.op (some 9) none (.ibin .lss (.t 7) (.t 8)))]) (.cond (.t 9) .skip (.exit 0))) (.seq (.block 1 (.draw [⟨(.op (some 14) none (.move (.t 0))), []⟩, ⟨(.op (some 15) none (.move (.t 2))), []⟩, ⟨(.op (some 16) none (.move (.t 0))), []⟩, ⟨(.op (some 17) none (.move (.t 3))), []⟩, ⟨(.op (some 18) none (.move (.t 0))), []⟩, ⟨(.op (some 19) none (.move (.t 3))), []⟩, ⟨(.op (some 20) none (.idx 1 (.t 18) (.t 19))), []⟩, ⟨(.op (some 21) none (.load false 1 (.t 20))), []⟩, ⟨(.op (some 22) none (.move (.t 0))), []⟩, ⟨(.op (some 23) none (.move (.t 2))), []⟩, ⟨(.op (some 24) none (.idx 1 (.t 22) (.t 23))), []⟩, ⟨(.op (some 25) none (.load false 1 (.t 24))), []⟩, ⟨(.op (some 26) none (.idx 1 (.t 14) (.t 15))), []⟩, ⟨(.op none none (.store 1 (.t 26) (.t 21))), [2, 3]⟩, ⟨(.op (some 27) none (.idx 1 (.t 16) (.t 17))), []⟩, ⟨(.op none none (.store 1 (.t 27) (.t 25))), []⟩])) (.ops [(.op (some 10) none (.move (.t 2))), (.op (some 11) none (.ibin .add (.t 10) (.c (.v (.int .i64 1))))), (.op (some 12) none (.move (.t 3))), (.op (some 13) none (.ibin .sub (.t 12) (.c (.v (.int .i64 1))))), (.op (some 2) none (.move (.t 11))), (.op (some 3) none (.move (.t 13)))]))))))⟩
theorem cf134 : compFn Try.prog 134 [(3, [(0, []), (1, []), (2, []), (3, []), (4, []), (5, []), (6, []), (7, []), (8, []), (9, []), (10, []), (11, []), (12, []), (13, [2, 3]), (14, []), (15, [])])] = some c134 := by kernel_rfl
def c135 : AFn := ⟨[(.t 2)], (.seq (.ops [(.op (some 1) none (.box (.t 0))), (.op (some 2) none (.move (.c (.v .nilFunc))))]) (.seq (.ops [(.op (some 3) none (.func (.func 175) [] [(.t 1)])), (.op (some 2) none (.move (.t 3)))]) .ret))⟩
theorem cf135 : compFn Try.prog 135 [] = some c135 := by kernel_rfl
def c136 : AFn := ⟨[(.c 8 6 true)], (.seq (.ops [(.op (some 6) none (.box (.t 2))), (.op (some 7) none (.box (.t 3))), (.op (some 8) none (.alloc [(.v (.int .i64 0)), (.v (.int .i64 0)), (.v (.bool false)), (.v (.string (ByteArray.mk #[]))), (.v (.slice none 0 0)), (.v (.slice none 0 0))]))]) (.seq (.ops [(.op (some 9) none (.move (.t 0))), (.op (some 10) none (.move (.t 1))), (.op (some 11) none (.load true 6 (.t 6))), (.op (some 12) none (.load true 6 (.t 7))), (.op (some 13) none (.buildS 6 2 [(.v (.int .i64 0)), (.v (.int .i64 0)), (.v (.bool false)), (.v (.string (ByteArray.mk #[]))), (.v (.slice none 0 0)), (.v (.slice none 0 0)), (.v (.int .i64 0)), (.v (.int .i64 0)), (.v (.bool false)), (.v (.string (ByteArray.mk #[]))), (.v (.slice none 0 0)), (.v (.slice none 0 0))] [(0, (6, (.t 11))), (6, (6, (.t 12)))])), (.op (some 14) none (.build [(.v (.int .i64 0)), (.v (.int .i64 0)), (.v (.bool false)), (.v (.string (ByteArray.mk #[]))), (.v (.slice none 0 0)), (.v (.slice none 0 0))] [(0, (1, (.t 9))), (2, (1, (.t 10))), (5, (1, (.t 13)))])), (.op none none (.store 6 (.t 8) (.t 14)))]) .ret))⟩
theorem cf136 : compFn Try.prog 136 [] = some c136 := by kernel_rfl
def c137 : AFn := ⟨[(.t 3)], (.seq (.ops [(.op (some 3) none (.move (.c (.v (.bool false)))))]) (.seq (.ops [(.op (some 4) none (.move (.t 0))), (.op (some 5) none (.load false 1 (.t 1))), (.op (some 6) none (.len .slice (.t 5))), (.op (some 7) none (.ibin .lss (.t 4) (.t 6))), (.op (some 8) none (.move (.t 7))), (.op (some 9) (some (8, true)) (.load false 1 (.t 1))), (.op (some 10) (some (8, true)) (.move (.t 0))), (.op (some 11) (some (8, true)) (.idx 1 (.t 9) (.t 10))), (.op (some 12) (some (8, true)) (.load false 1 (.t 11))), (.op (some 13) none (.pick (.t 8) (.t 12) (.c (.v (.bool false))))), (.op (some 3) none (.move (.t 13)))]) .ret))⟩
theorem cf137 : compFn Try.prog 137 [] = some c137 := by kernel_rfl
def c175 : AFn := ⟨[], (.seq (.ops [(.op (some 4) none (.load false 1 (.t 1))), (.op (some 5) none (.len .slice (.t 4))), (.op (some 6) none (.ibin .sub (.t 5) (.c (.v (.int .i64 1))))), (.op (some 3) none (.move (.t 6)))]) (.block 0 (.loop (.seq (.seq (.ops [(.op (some 7) none (.move (.t 3))), (.op (some 8) none (.ibin .geq (.t 7) (.c (.v (.int .i64 0)))))]) (.cond (.t 8) .skip (.exit 0))) (.seq (.block 1 (.seq (.ops [(.op (some 11) none (.move (.t 0))), (.op (some 12) none (.move (.t 3))), (.op (some 13) none (.load false 1 (.t 1))), (.op (some 14) none (.move (.t 3))), (.op (some 15) none (.idx 6 (.t 13) (.t 14))), (.op (some 16) none (.load true 6 (.t 15))), (.call (some 17) none (.t 11) [(.t 12), (.t 16)]), (.op (some 18) none (.not (.t 17)))]) (.cond (.t 18) .ret .skip))) (.ops [(.op (some 9) none (.move (.t 3))), (.op (some 10) none (.ibin .sub (.t 9) (.c (.v (.int .i64 1))))), (.op (some 3) none (.move (.t 10)))]))))))⟩
theorem cf175 : compFn Try.prog 175 [] = some c175 := by kernel_rfl
end Go.Proofs.Ytooaiddfokbffaa.E

/- The reference's Lift and Exactly. Conditions: none. -/
set_option linter.unusedVariables false
set_option linter.unusedSimpArgs false
namespace Go.Proofs.Ytooaiddfokbffaa.E
open Go Go.Proofs
attribute [local go_sem] s_seq s_ops s_draw s_block s_skip s_ret s_exit i_nil i_cons i_run i_runG s_condQ c_true c_false aop ev_t ev_c updO_at updO_no upd_at t_normal t_ret t_exit b_normal b_ret b_exit a_some ac_v ac_agg ac_ptr ac_slc ac_ro ac_rop ac_fn new_next set_next argTm_zero argTm_succ argTm_nil ab_bool ab_uv beq_self_eq_true Option.some_beq_some Bool.not_not beq_iff_eq decide_true decide_false Bool.not_true Bool.not_false afld aload astore apack alen_str alen_ro alen_slc alen_nil new_get set_get ite_true ite_false Option.map_some Option.bind_some ibin isShift Nat.add_zero Nat.zero_add List.length_cons List.length_nil List.drop_zero List.drop_succ_cons List.take_succ_cons List.take_zero if_true if_false setL List.set_cons_zero List.set_cons_succ List.all_cons List.all_nil one_int one_bool one_str one_nil one_ptr one_slc one_ro one_rop one_fn Bool.and_self Bool.and_true true_and and_true and_self Bool.false_eq_true post_ret post_normal resAll resOne packR Option.some.injEq exists_eq_left' List.map_cons List.map_nil List.nil_append List.append_nil List.cons_append d_nil d_cons k_nil k_cons g_op g_same g_new avBlock forall_eq' List.getElem?_cons_succ List.getElem?_cons_zero List.getElem?_nil okind gOk bne false_imp_iff forall_const imp_self implies_true true_imp_iff i_callG

/-! ### Plain laws -/
mutual
theorem fit_clean (c high : Int) : ∀ t, fitT c high (cleanT t) = fitT c high t
  | .mk f n h s lv ks => by
    rw [cleanT, bare_mk, fitT, fitT]
    split
    · rfl
    · exact fit_cleanK (c + 1) (high + 1) ks
theorem fit_cleanK (c high : Int) : ∀ ks, fitK c high (cleanK ks) = fitK c high ks
  | [] => rfl
  | k :: r => by
    simp only [cleanK, fitK]
    rw [fit_clean c high k]
    split
    · exact fit_cleanK _ high r
    · rfl
end
theorem clean_form (t : Tm) : (cleanT t).form = t.form := by cases t; rfl
theorem head_clean (f : Int) : ∀ ks, headIs f (cleanK ks) = headIs f ks
  | [] => rfl
  | k :: r => by simp only [cleanK, headIs, clean_form]
theorem formF_clean (r : Lv → Bool) (f n : Int) (h : Bool) (s : ByteArray) (lv : List Lv) (ks : List Tm) : formF r (cleanT (.mk f n h s lv ks)) = formF r (.mk f n h s lv ks) := by
  rw [cleanT, bare_mk]
  by_cases hk : kidsF f = (ks.length : Int)
  · rw [formF_eq r _ _ _ _ _ _ hk, formF_eq r _ _ _ _ _ _ (by rw [cleanK_len]; exact hk), head_clean]
    by_cases h1 : f = 1 ∨ f = 11
    · rw [if_pos h1, if_pos h1, if_pos h1]
    · rw [if_neg h1, if_neg h1]
      by_cases h2 : f = 2
      · subst h2; rfl
      · by_cases h10 : f = 10
        · subst h10; rfl
        · rw [if_neg h2, if_neg h2, if_neg h10, if_neg h10]
  · unfold formF
    rw [if_pos (by show kidsF f ≠ ((cleanK ks).length : Int); rw [cleanK_len]; exact hk), if_pos (by exact hk)]
mutual
theorem allF_clean (r : Lv → Bool) : ∀ t, allF (formF r) (cleanT t) = allF (formF r) t
  | .mk f n h s lv ks => by
    have h1 := formF_clean r f n h s lv ks
    rw [cleanT, bare_mk] at h1 ⊢
    simp only [allF]
    rw [h1, allF_cleanK r ks]
theorem allF_cleanK (r : Lv → Bool) : ∀ ks, allK (formF r) (cleanK ks) = allK (formF r) ks
  | [] => rfl
  | k :: q => by simp only [cleanK, allK]; rw [allF_clean r k, allF_cleanK r q]
end
theorem check_clean (r : Lv → Bool) (t : Tm) : checkF r (cleanT t) = checkF r t := by
  unfold checkF
  rw [fit_clean, allF_clean]

mutual
theorem clean_rl (fr by_ deep : Int) : ∀ t, Tm.All Vk t → cleanT (rlT (fr + deep) by_ t) = liftT fr by_ deep t
  | .mk f n h s lv ks, ha => by
    simp only [Tm.All, Vk, Tm.form, Tm.kids] at ha
    rw [rlT]
    by_cases hf : f = 1 ∧ n ≥ fr + deep
    · rw [if_pos hf, lift_var _ _ _ hf]
      obtain ⟨rfl, _⟩ := hf
      obtain rfl := ha.1 rfl
      rfl
    · rw [if_neg hf, lift_node _ _ _ hf, cleanT, clean_rlK fr by_ f deep ks 0 ha.2, bare_mk, bare_mk]
theorem clean_rlK (fr by_ f deep : Int) : ∀ (ks : List Tm) (i : Nat), Tm.AllL Vk ks → cleanK (rlK (fr + deep) by_ f i ks) = liftK fr by_ f i deep ks
  | [], _, _ => rfl
  | k :: r, i, ha => by
    simp only [Tm.AllL] at ha
    simp only [rlK, cleanK, liftK]
    rw [underF_add', clean_rl fr by_ _ k ha.1, clean_rlK fr by_ f deep r (i + 1) ha.2]
end
def wholeF (t : Tm) : Tm × Int := if ¬ checkF canF t = 0 then (zeroTm, 2) else (cleanT t, 0)
/-! ### The code -/
end Go.Proofs.Ytooaiddfokbffaa.E

/- The reference's Exactly, of one term. Conditions: none. -/
set_option linter.unusedVariables false
set_option linter.unusedSimpArgs false
namespace Go.Proofs.Ytooaiddfokbffaa.E
open Go Go.Proofs
attribute [local go_sem] s_seq s_ops s_draw s_block s_skip s_ret s_exit i_nil i_cons i_run i_runG s_condQ c_true c_false aop ev_t ev_c updO_at updO_no upd_at t_normal t_ret t_exit b_normal b_ret b_exit a_some ac_v ac_agg ac_ptr ac_slc ac_ro ac_rop ac_fn new_next set_next argTm_zero argTm_succ argTm_nil ab_bool ab_uv beq_self_eq_true Option.some_beq_some Bool.not_not beq_iff_eq decide_true decide_false Bool.not_true Bool.not_false afld aload astore apack alen_str alen_ro alen_slc alen_nil new_get set_get ite_true ite_false Option.map_some Option.bind_some ibin isShift Nat.add_zero Nat.zero_add List.length_cons List.length_nil List.drop_zero List.drop_succ_cons List.take_succ_cons List.take_zero if_true if_false setL List.set_cons_zero List.set_cons_succ List.all_cons List.all_nil one_int one_bool one_str one_nil one_ptr one_slc one_ro one_rop one_fn Bool.and_self Bool.and_true true_and and_true and_self Bool.false_eq_true post_ret post_normal resAll resOne packR Option.some.injEq exists_eq_left' List.map_cons List.map_nil List.nil_append List.append_nil List.cons_append d_nil d_cons k_nil k_cons g_op g_same g_new avBlock forall_eq' List.getElem?_cons_succ List.getElem?_cons_zero List.getElem?_nil okind gOk bne false_imp_iff forall_const imp_self implies_true true_imp_iff i_callG

theorem aeqs_self (a b : Int) : aeqs [.int, .int] [aint a, aint b] [aint a, aint b] = some true := by simp [aeqs]
set_option maxRecDepth 100000 in
theorem exL_ok (l : Lv) (x y : AV) (xs ys : List AV) (h1 : SlR l.vars.length x xs) (h2 : VarsR l.vars xs) (g1 : SlR l.vars.length y ys) (g2 : VarsR l.vars ys) (hn : l.vars.length ≤ 4611686018427387904) (H : AHeap) :
    SCall Try.prog 80 [.agg [aint l.n, x], .agg [aint l.n, y]] H fun x H' => x = abl true ∧ H' = H := by
  refine SCall.val (SCall.intro mixed cf80 ?_)
  have e1 : ¬ H.next = H.next + 1 := by omega
  have e2 : ¬ H.next + 1 = H.next := by omega
  simp -implicitDefEqProofs only [c80, go_sem, Nat.reduceEqDiff, Nat.reduceAdd, Nat.reduceLeDiff, ↓reduceIte, reduceCtorEq, Int.reduceBEq, Int.reduceBNe, Int.reduceLT, Int.reduceLE, Int.reduceGT, Int.reduceGE, Int.reduceNeg, Int.reduceAdd, Int.reduceSub, Nat.reduceMul, Nat.reduceLT, Int.reduceToNat, h1.one, h1.cells, g1.one, g1.cells, e1, e2, fun H => h1.alen H, fun H => g1.alen H]
  refine swp_range l.vars.length (fun i st => st.tm 2 = .ptr H.next 0 ∧ st.tm 3 = .ptr (H.next + 1) 0 ∧ st.tm 5 = aint i ∧ Ext H st.heap ∧ st.heap.get H.next = some (.cells [aint l.n, x]) ∧ st.heap.get (H.next + 1) = some (.cells [aint l.n, y])) ?_ ?_ ?_
  · exact ⟨rfl, rfl, rfl, ((Ext.refl H).new _).new _, by simp -implicitDefEqProofs only [go_sem, Nat.reduceEqDiff, Nat.reduceAdd, Nat.reduceLeDiff, ↓reduceIte, reduceCtorEq, Int.reduceBEq, Int.reduceBNe, Int.reduceLT, Int.reduceLE, Int.reduceGT, Int.reduceGE, Int.reduceNeg, Int.reduceAdd, Int.reduceSub, Nat.reduceMul, Nat.reduceLT, Int.reduceToNat, e1], by simp -implicitDefEqProofs only [go_sem, Nat.reduceEqDiff, Nat.reduceAdd, Nat.reduceLeDiff, ↓reduceIte, reduceCtorEq, Int.reduceBEq, Int.reduceBNe, Int.reduceLT, Int.reduceLE, Int.reduceGT, Int.reduceGE, Int.reduceNeg, Int.reduceAdd, Int.reduceSub, Nat.reduceMul, Nat.reduceLT, Int.reduceToNat]⟩
  · rintro i ⟨tm, H2⟩ hi ⟨t2, t3, t5, hE, hg0, hg1⟩
    simp only at t2 t3 t5 hE hg0 hg1
    have hltI : (i : Int) < (l.vars.length : Int) := by omega
    have hix := h1.aix 2 hi
    have hix' := g1.aix 2 hi
    obtain ⟨hle, hld⟩ := h2.at hi
    obtain ⟨hle', hld'⟩ := g2.at hi
    have w3 : IntKind.i64.wrap ((i : Int) + 1) = (i : Int) + 1 := i64_ok _ (by omega)
    simp -implicitDefEqProofs only [go_sem, Nat.reduceEqDiff, Nat.reduceAdd, Nat.reduceLeDiff, ↓reduceIte, reduceCtorEq, Int.reduceBEq, Int.reduceBNe, Int.reduceLT, Int.reduceLE, Int.reduceGT, Int.reduceGE, Int.reduceNeg, Int.reduceAdd, Int.reduceSub, Nat.reduceMul, Nat.reduceLT, Int.reduceToNat, t2, t3, t5, hg0, hg1, fun H => h1.alen H, hltI, hix, hix', hle, hld, hle', hld', w3, aeqs_self]
    exact ⟨by simp, hE⟩
  · rintro ⟨tm, H2⟩ ⟨t2, t3, t5, hE, hg0, hg1⟩
    simp only at t2 t3 t5 hE hg0 hg1
    simp -implicitDefEqProofs only [go_sem, Nat.reduceEqDiff, Nat.reduceAdd, Nat.reduceLeDiff, ↓reduceIte, reduceCtorEq, Int.reduceBEq, Int.reduceBNe, Int.reduceLT, Int.reduceLE, Int.reduceGT, Int.reduceGE, Int.reduceNeg, Int.reduceAdd, Int.reduceSub, Nat.reduceMul, Nat.reduceLT, Int.reduceToNat, t2, t3, t5, hg0, fun H => h1.alen H, Int.lt_irrefl]
    exact hE

set_option maxRecDepth 100000 in
theorem exact_ok : ∀ t, Tm.All TmB t → ∀ (ac bc : List AV), TmR t ac → TmR t bc → ∀ (H : AHeap), SCall Try.prog 22 [.agg ac, .agg bc] H fun x H' => x = abl true ∧ H' = H := by
  refine Tm.rule fun f n hid s lv ks ih ha ac bc hA hB H => ?_
  obtain ⟨lx, kx, ls, cs, rfl, hl1, hl2, hk1, hk2⟩ := hA.six
  obtain ⟨lx', kx', ls', cs', rfl, hl1', hl2', hk1', hk2'⟩ := hB.six
  simp only [Tm.All, TmB, Tm.form, Tm.n, Tm.hid, Tm.name, Tm.lv, Tm.kids] at *
  obtain ⟨⟨_, _, a1, a2, a3, a4⟩, a5⟩ := ha
  refine SCall.val (SCall.intro mixed cf22 ?_)
  have e1 : ¬ H.next = H.next + 1 := by omega
  have e2 : ¬ H.next + 1 = H.next := by omega
  have lal : ∀ G, alen G .slice lx = some lv.length := fun G => hl1.alen G
  have lal' : ∀ G, alen G .slice lx' = some lv.length := fun G => hl1'.alen G
  have kal : ∀ G, alen G .slice kx = some ks.length := fun G => hk1.alen G
  have kal' : ∀ G, alen G .slice kx' = some ks.length := fun G => hk1'.alen G
  simp -implicitDefEqProofs only [c22, go_sem, Nat.reduceEqDiff, Nat.reduceAdd, Nat.reduceLeDiff, ↓reduceIte, reduceCtorEq, Int.reduceBEq, Int.reduceBNe, Int.reduceLT, Int.reduceLE, Int.reduceGT, Int.reduceGE, Int.reduceNeg, Int.reduceAdd, Int.reduceSub, Nat.reduceMul, Nat.reduceLT, Int.reduceToNat, hl1.one, hl1.cells, hk1.one, hk1.cells, hl1'.one, hl1'.cells, hk1'.one, hk1'.cells, e1, e2, lal, lal', kal, kal', sbin]
  refine swp_range lv.length (fun i st => st.tm 2 = .ptr H.next 0 ∧ st.tm 3 = .ptr (H.next + 1) 0 ∧ st.tm 5 = aint i ∧ Ext H st.heap ∧ st.heap.get H.next = some (.cells [aint f, aint n, abl hid, .v (.string s), lx, kx]) ∧ st.heap.get (H.next + 1) = some (.cells [aint f, aint n, abl hid, .v (.string s), lx', kx'])) ?_ ?_ ?_
  · exact ⟨rfl, rfl, rfl, ((Ext.refl H).new _).new _, by simp -implicitDefEqProofs only [go_sem, Nat.reduceEqDiff, Nat.reduceAdd, Nat.reduceLeDiff, ↓reduceIte, reduceCtorEq, Int.reduceBEq, Int.reduceBNe, Int.reduceLT, Int.reduceLE, Int.reduceGT, Int.reduceGE, Int.reduceNeg, Int.reduceAdd, Int.reduceSub, Nat.reduceMul, Nat.reduceLT, Int.reduceToNat, e1], by simp -implicitDefEqProofs only [go_sem, Nat.reduceEqDiff, Nat.reduceAdd, Nat.reduceLeDiff, ↓reduceIte, reduceCtorEq, Int.reduceBEq, Int.reduceBNe, Int.reduceLT, Int.reduceLE, Int.reduceGT, Int.reduceGE, Int.reduceNeg, Int.reduceAdd, Int.reduceSub, Nat.reduceMul, Nat.reduceLT, Int.reduceToNat]⟩
  · rintro i ⟨tm, H2⟩ hi ⟨t2, t3, t5, hE, hg0, hg1⟩
    simp only at t2 t3 t5 hE hg0 hg1
    have hltI : (i : Int) < (lv.length : Int) := by omega
    have hix := hl1.aix 2 hi
    have hix' := hl1'.aix 2 hi
    obtain ⟨vx, vs, hle, hld, hv1, hv2⟩ := hl2.at (List.getElem?_eq_getElem hi)
    obtain ⟨wx, ws, hle', hld', hw1, hw2⟩ := hl2'.at (List.getElem?_eq_getElem hi)
    have w3 : IntKind.i64.wrap ((i : Int) + 1) = (i : Int) + 1 := i64_ok _ (by omega)
    have hb := (a4 _ (List.getElem_mem hi)).2.1
    simp -implicitDefEqProofs only [go_sem, Nat.reduceEqDiff, Nat.reduceAdd, Nat.reduceLeDiff, ↓reduceIte, reduceCtorEq, Int.reduceBEq, Int.reduceBNe, Int.reduceLT, Int.reduceLE, Int.reduceGT, Int.reduceGE, Int.reduceNeg, Int.reduceAdd, Int.reduceSub, Nat.reduceMul, Nat.reduceLT, Int.reduceToNat, t2, t3, t5, hg0, hg1, lal, hltI, hix, hix', hle, hld, hle', hld', hv1.one, hv1.cells, hw1.one, hw1.cells]
    refine i_callA (fs := []) (cs := []) (fid := 80) ?_ ?_ (exL_ok lv[i] vx wx vs ws hv1 hv2 hw1 hw2 (by omega) _) ?_
    · rfl
    · simp -implicitDefEqProofs only [go_sem, Nat.reduceEqDiff, Nat.reduceAdd, Nat.reduceLeDiff, ↓reduceIte, reduceCtorEq, Int.reduceBEq, Int.reduceBNe, Int.reduceLT, Int.reduceLE, Int.reduceGT, Int.reduceGE, Int.reduceNeg, Int.reduceAdd, Int.reduceSub, Nat.reduceMul, Nat.reduceLT, Int.reduceToNat]
    rintro x H3 ⟨rfl, rfl⟩
    simp -implicitDefEqProofs only [go_sem, Nat.reduceEqDiff, Nat.reduceAdd, Nat.reduceLeDiff, ↓reduceIte, reduceCtorEq, Int.reduceBEq, Int.reduceBNe, Int.reduceLT, Int.reduceLE, Int.reduceGT, Int.reduceGE, Int.reduceNeg, Int.reduceAdd, Int.reduceSub, Nat.reduceMul, Nat.reduceLT, Int.reduceToNat, t2, t3, t5, hg0, hg1, lal, hltI, hix, hix', hle, hld, hle', hld', hv1.one, hv1.cells, hw1.one, hw1.cells, w3]
    exact ⟨by simp, hE⟩
  · rintro ⟨tm, H2⟩ ⟨t2, t3, t5, hE, hg0, hg1⟩
    simp only at t2 t3 t5 hE hg0 hg1
    simp -implicitDefEqProofs only [go_sem, Nat.reduceEqDiff, Nat.reduceAdd, Nat.reduceLeDiff, ↓reduceIte, reduceCtorEq, Int.reduceBEq, Int.reduceBNe, Int.reduceLT, Int.reduceLE, Int.reduceGT, Int.reduceGE, Int.reduceNeg, Int.reduceAdd, Int.reduceSub, Nat.reduceMul, Nat.reduceLT, Int.reduceToNat, t2, t3, t5, hg0, lal, Int.lt_irrefl]
    refine swp_range ks.length (fun i st => st.tm 2 = .ptr H.next 0 ∧ st.tm 3 = .ptr (H.next + 1) 0 ∧ st.tm 7 = aint i ∧ Ext H st.heap ∧ st.heap.get H.next = some (.cells [aint f, aint n, abl hid, .v (.string s), lx, kx]) ∧ st.heap.get (H.next + 1) = some (.cells [aint f, aint n, abl hid, .v (.string s), lx', kx'])) ?_ ?_ ?_
    · refine ⟨?_, ?_, rfl, hE, hg0, hg1⟩
      all_goals simp -implicitDefEqProofs only [go_sem, Nat.reduceEqDiff, Nat.reduceAdd, Nat.reduceLeDiff, ↓reduceIte, reduceCtorEq, Int.reduceBEq, Int.reduceBNe, Int.reduceLT, Int.reduceLE, Int.reduceGT, Int.reduceGE, Int.reduceNeg, Int.reduceAdd, Int.reduceSub, Nat.reduceMul, Nat.reduceLT, Int.reduceToNat, t2, t3]
    · rintro i ⟨tm, H5⟩ hi ⟨t2, t3, t7, hE, hg0, hg1⟩
      simp only at t2 t3 t7 hE hg0 hg1
      have hltI : (i : Int) < (ks.length : Int) := by omega
      have hix := hk1.aix 6 hi
      have hix' := hk1'.aix 6 hi
      obtain ⟨kc, hkc, hle, hld⟩ := hk2.load (List.getElem?_eq_getElem hi)
      obtain ⟨kc', hkc', hle', hld'⟩ := hk2'.load (List.getElem?_eq_getElem hi)
      have w3 : IntKind.i64.wrap ((i : Int) + 1) = (i : Int) + 1 := i64_ok _ (by omega)
      have hkm := List.getElem_mem hi
      simp -implicitDefEqProofs only [go_sem, Nat.reduceEqDiff, Nat.reduceAdd, Nat.reduceLeDiff, ↓reduceIte, reduceCtorEq, Int.reduceBEq, Int.reduceBNe, Int.reduceLT, Int.reduceLE, Int.reduceGT, Int.reduceGE, Int.reduceNeg, Int.reduceAdd, Int.reduceSub, Nat.reduceMul, Nat.reduceLT, Int.reduceToNat, t2, t3, t7, hg0, hg1, kal, hltI, hix, hix', hle, hld, hle', hld']
      refine i_callA (fs := []) (cs := []) (fid := 22) ?_ ?_ (ih ks[i] hkm (a5.mem _ hkm) _ _ hkc hkc' _) ?_
      · rfl
      · simp -implicitDefEqProofs only [go_sem, Nat.reduceEqDiff, Nat.reduceAdd, Nat.reduceLeDiff, ↓reduceIte, reduceCtorEq, Int.reduceBEq, Int.reduceBNe, Int.reduceLT, Int.reduceLE, Int.reduceGT, Int.reduceGE, Int.reduceNeg, Int.reduceAdd, Int.reduceSub, Nat.reduceMul, Nat.reduceLT, Int.reduceToNat]
      rintro x H3 ⟨rfl, rfl⟩
      simp -implicitDefEqProofs only [go_sem, Nat.reduceEqDiff, Nat.reduceAdd, Nat.reduceLeDiff, ↓reduceIte, reduceCtorEq, Int.reduceBEq, Int.reduceBNe, Int.reduceLT, Int.reduceLE, Int.reduceGT, Int.reduceGE, Int.reduceNeg, Int.reduceAdd, Int.reduceSub, Nat.reduceMul, Nat.reduceLT, Int.reduceToNat, t2, t3, t7, hg0, hg1, kal, hltI, hix, hix', hle, hld, hle', hld', w3]
      exact ⟨by simp, hE⟩
    · rintro ⟨tm, H5⟩ ⟨t2, t3, t7, hE, hg0, hg1⟩
      simp only at t2 t3 t7 hE hg0 hg1
      simp -implicitDefEqProofs only [go_sem, Nat.reduceEqDiff, Nat.reduceAdd, Nat.reduceLeDiff, ↓reduceIte, reduceCtorEq, Int.reduceBEq, Int.reduceBNe, Int.reduceLT, Int.reduceLE, Int.reduceGT, Int.reduceGE, Int.reduceNeg, Int.reduceAdd, Int.reduceSub, Nat.reduceMul, Nat.reduceLT, Int.reduceToNat, t2, t3, t7, hg0, kal, Int.lt_irrefl]
      exact hE
end Go.Proofs.Ytooaiddfokbffaa.E

/- Small helpers of telescopes: big, same, ask, hidden, Bind. Conditions: none. -/
set_option linter.unusedVariables false
set_option linter.unusedSimpArgs false
namespace Go.Proofs.Ytooaiddfokbffaa.E
open Go Go.Proofs
attribute [local go_sem] s_seq s_ops s_draw s_block s_skip s_ret s_exit i_nil i_cons i_run i_runG s_condQ c_true c_false aop ev_t ev_c updO_at updO_no upd_at t_normal t_ret t_exit b_normal b_ret b_exit a_some ac_v ac_agg ac_ptr ac_slc ac_ro ac_rop ac_fn new_next set_next argTm_zero argTm_succ argTm_nil ab_bool ab_uv beq_self_eq_true Option.some_beq_some Bool.not_not beq_iff_eq decide_true decide_false Bool.not_true Bool.not_false afld aload astore apack alen_str alen_ro alen_slc alen_nil new_get set_get ite_true ite_false Option.map_some Option.bind_some ibin isShift Nat.add_zero Nat.zero_add List.length_cons List.length_nil List.drop_zero List.drop_succ_cons List.take_succ_cons List.take_zero if_true if_false setL List.set_cons_zero List.set_cons_succ List.all_cons List.all_nil one_int one_bool one_str one_nil one_ptr one_slc one_ro one_rop one_fn Bool.and_self Bool.and_true true_and and_true and_self Bool.false_eq_true post_ret post_normal resAll resOne packR Option.some.injEq exists_eq_left' List.map_cons List.map_nil List.nil_append List.append_nil List.cons_append d_nil d_cons k_nil k_cons g_op g_same g_new avBlock forall_eq' List.getElem?_cons_succ List.getElem?_cons_zero List.getElem?_nil okind gOk bne false_imp_iff forall_const imp_self implies_true true_imp_iff i_callG

def bigL (l : List Tm) : Bool := decide (l.length > 100) || l.any bigF

set_option maxRecDepth 100000 in
theorem bigL_ok (ks : List Tm) (ha : Tm.AllL TmB ks) (x : AV) (cs : List AV) (h1 : SlR ks.length x cs) (h2 : KsR ks cs) (hn : ks.length ≤ 4611686018427387904) (H : AHeap) :
    SCall Try.prog 34 [x] H fun y H' => y = abl (bigL ks) ∧ H' = H := by
  have kal : ∀ G, alen G .slice x = some ks.length := fun G => h1.alen G
  refine SCall.val (SCall.intro mixed cf34 ?_)
  by_cases hg : (ks.length : Int) > 100
  · simp -implicitDefEqProofs only [c34, go_sem, Nat.reduceEqDiff, Nat.reduceAdd, Nat.reduceLeDiff, ↓reduceIte, reduceCtorEq, Int.reduceBEq, Int.reduceBNe, Int.reduceLT, Int.reduceLE, Int.reduceGT, Int.reduceGE, Int.reduceNeg, Int.reduceAdd, Int.reduceSub, Nat.reduceMul, Nat.reduceLT, Int.reduceToNat, kal, hg]
    exact ⟨by unfold bigL; rw [decide_eq_true (by omega), Bool.true_or], Ext.refl H⟩
  have hb : bigL ks = ks.any bigF := by unfold bigL; rw [decide_eq_false (by omega), Bool.false_or]
  rw [hb]
  simp -implicitDefEqProofs only [c34, go_sem, Nat.reduceEqDiff, Nat.reduceAdd, Nat.reduceLeDiff, ↓reduceIte, reduceCtorEq, Int.reduceBEq, Int.reduceBNe, Int.reduceLT, Int.reduceLE, Int.reduceGT, Int.reduceGE, Int.reduceNeg, Int.reduceAdd, Int.reduceSub, Nat.reduceMul, Nat.reduceLT, Int.reduceToNat, kal, hg]
  refine swp_range ks.length (fun i st => st.tm 0 = x ∧ st.tm 3 = aint i ∧ st.heap = H ∧ ks.any bigF = (ks.drop i).any bigF) ?_ ?_ ?_
  · exact ⟨rfl, rfl, rfl, rfl⟩
  · rintro i ⟨tm, H2⟩ hi ⟨t0, t3, hh, hr⟩
    simp only at t0 t3 hh
    subst hh
    have hltI : (i : Int) < (ks.length : Int) := by omega
    have hix := h1.aix 6 hi
    obtain ⟨kc, hkc, hle, hld⟩ := h2.load (List.getElem?_eq_getElem hi)
    have hkm := List.getElem_mem hi
    have w3 : IntKind.i64.wrap ((i : Int) + 1) = (i : Int) + 1 := i64_ok _ (by omega)
    have hdrop : ks.drop i = ks[i] :: ks.drop (i + 1) := List.drop_eq_getElem_cons hi
    rw [hdrop, List.any_cons] at hr
    simp -implicitDefEqProofs only [go_sem, Nat.reduceEqDiff, Nat.reduceAdd, Nat.reduceLeDiff, ↓reduceIte, reduceCtorEq, Int.reduceBEq, Int.reduceBNe, Int.reduceLT, Int.reduceLE, Int.reduceGT, Int.reduceGE, Int.reduceNeg, Int.reduceAdd, Int.reduceSub, Nat.reduceMul, Nat.reduceLT, Int.reduceToNat, t0, t3, kal, hltI, hix, hle, hld]
    refine i_callA (fs := []) (cs := []) (fid := 15) ?_ ?_ (big_ok ks[i] (ha.mem _ hkm) _ hkc _) ?_
    · rfl
    · simp -implicitDefEqProofs only [go_sem, Nat.reduceEqDiff, Nat.reduceAdd, Nat.reduceLeDiff, ↓reduceIte, reduceCtorEq, Int.reduceBEq, Int.reduceBNe, Int.reduceLT, Int.reduceLE, Int.reduceGT, Int.reduceGE, Int.reduceNeg, Int.reduceAdd, Int.reduceSub, Nat.reduceMul, Nat.reduceLT, Int.reduceToNat]
    rintro y H3 ⟨rfl, hHH⟩
    have hHH := hHH.symm
    subst hHH
    cases hq : bigF ks[i] with
    | true =>
      rw [hq, Bool.true_or] at hr
      simp -implicitDefEqProofs only [go_sem, Nat.reduceEqDiff, Nat.reduceAdd, Nat.reduceLeDiff, ↓reduceIte, reduceCtorEq, Int.reduceBEq, Int.reduceBNe, Int.reduceLT, Int.reduceLE, Int.reduceGT, Int.reduceGE, Int.reduceNeg, Int.reduceAdd, Int.reduceSub, Nat.reduceMul, Nat.reduceLT, Int.reduceToNat]
      exact ⟨by rw [hr], Ext.refl _⟩
    | false =>
      rw [hq, Bool.false_or] at hr
      simp -implicitDefEqProofs only [go_sem, Nat.reduceEqDiff, Nat.reduceAdd, Nat.reduceLeDiff, ↓reduceIte, reduceCtorEq, Int.reduceBEq, Int.reduceBNe, Int.reduceLT, Int.reduceLE, Int.reduceGT, Int.reduceGE, Int.reduceNeg, Int.reduceAdd, Int.reduceSub, Nat.reduceMul, Nat.reduceLT, Int.reduceToNat, t0, t3, w3]
      exact ⟨by simp, hr⟩
  · rintro ⟨tm, H2⟩ ⟨t0, t3, hh, hr⟩
    simp only at t0 t3 hh
    subst hh
    rw [List.drop_length, List.any_nil] at hr
    simp -implicitDefEqProofs only [go_sem, Nat.reduceEqDiff, Nat.reduceAdd, Nat.reduceLeDiff, ↓reduceIte, reduceCtorEq, Int.reduceBEq, Int.reduceBNe, Int.reduceLT, Int.reduceLE, Int.reduceGT, Int.reduceGE, Int.reduceNeg, Int.reduceAdd, Int.reduceSub, Nat.reduceMul, Nat.reduceLT, Int.reduceToNat, t0, t3, kal, Int.lt_irrefl]
    exact ⟨by rw [hr], Ext.refl _⟩

theorem cleanK_get : ∀ (ks : List Tm) (i : Nat) (hi : i < ks.length), (cleanK ks)[i]? = some (cleanT ks[i])
  | k :: r, 0, _ => rfl
  | k :: r, i + 1, hi => by
    simp only [cleanK, List.getElem?_cons_succ, List.getElem_cons_succ]
    exact cleanK_get r i (by simpa using hi)

set_option maxRecDepth 100000 in
theorem sameL_ok (ks : List Tm) (ha : Tm.AllL TmB ks) (x : AV) (cs : List AV) (h1 : SlR ks.length x cs) (h2 : KsR (cleanK ks) cs) (y : AV) (ds : List AV) (g1 : SlR ks.length y ds) (g2 : KsR ks ds) (go : ∀ z ∈ ds, Old 0 z) (hn : ks.length ≤ 4611686018427387904) (H : AHeap) :
    SCall Try.prog 33 [x, y] H fun z H' => z = abl true ∧ H' = H := by
  have kal : ∀ G, alen G .slice x = some ks.length := fun G => h1.alen G
  have kal' : ∀ G, alen G .slice y = some ks.length := fun G => g1.alen G
  refine SCall.val (SCall.intro mixed cf33 ?_)
  simp -implicitDefEqProofs only [c33, go_sem, Nat.reduceEqDiff, Nat.reduceAdd, Nat.reduceLeDiff, ↓reduceIte, reduceCtorEq, Int.reduceBEq, Int.reduceBNe, Int.reduceLT, Int.reduceLE, Int.reduceGT, Int.reduceGE, Int.reduceNeg, Int.reduceAdd, Int.reduceSub, Nat.reduceMul, Nat.reduceLT, Int.reduceToNat, kal, kal']
  refine swp_range ks.length (fun i st => st.tm 0 = x ∧ st.tm 1 = y ∧ st.tm 5 = aint i ∧ st.heap = H) ?_ ?_ ?_
  · exact ⟨rfl, rfl, rfl, rfl⟩
  · rintro i ⟨tm, H2⟩ hi ⟨t0, t1, t5, hh⟩
    simp only at t0 t1 t5 hh
    subst hh
    have hltI : (i : Int) < (ks.length : Int) := by omega
    have hix := h1.aix 6 hi
    have hix' := g1.aix 6 hi
    obtain ⟨kc, hkc, hle, hld⟩ := h2.load (cleanK_get ks i hi)
    obtain ⟨dc, hdc, hle', hld'⟩ := g2.load (List.getElem?_eq_getElem hi)
    have hkm := List.getElem_mem hi
    have hdP : TmP ks[i] dc := ⟨hdc, fun z hz => go z (by rw [← hld'] at hz; exact List.mem_of_mem_drop (List.mem_of_mem_take hz))⟩
    have w3 : IntKind.i64.wrap ((i : Int) + 1) = (i : Int) + 1 := i64_ok _ (by omega)
    simp -implicitDefEqProofs only [go_sem, Nat.reduceEqDiff, Nat.reduceAdd, Nat.reduceLeDiff, ↓reduceIte, reduceCtorEq, Int.reduceBEq, Int.reduceBNe, Int.reduceLT, Int.reduceLE, Int.reduceGT, Int.reduceGE, Int.reduceNeg, Int.reduceAdd, Int.reduceSub, Nat.reduceMul, Nat.reduceLT, Int.reduceToNat, t0, t1, t5, kal, hltI, hix, hle, hld, hix', hle', hld']
    refine i_callA (fs := []) (cs := []) (fid := 32) ?_ ?_ (clean_ok ks[i] (ha.mem _ hkm) _ hdP _) ?_
    · rfl
    · simp -implicitDefEqProofs only [go_sem, Nat.reduceEqDiff, Nat.reduceAdd, Nat.reduceLeDiff, ↓reduceIte, reduceCtorEq, Int.reduceBEq, Int.reduceBNe, Int.reduceLT, Int.reduceLE, Int.reduceGT, Int.reduceGE, Int.reduceNeg, Int.reduceAdd, Int.reduceSub, Nat.reduceMul, Nat.reduceLT, Int.reduceToNat]
    rintro z H3 ⟨⟨xc, rfl, hxc⟩, hHH⟩
    have hHH := hHH.symm
    subst hHH
    simp -implicitDefEqProofs only [go_sem, Nat.reduceEqDiff, Nat.reduceAdd, Nat.reduceLeDiff, ↓reduceIte, reduceCtorEq, Int.reduceBEq, Int.reduceBNe, Int.reduceLT, Int.reduceLE, Int.reduceGT, Int.reduceGE, Int.reduceNeg, Int.reduceAdd, Int.reduceSub, Nat.reduceMul, Nat.reduceLT, Int.reduceToNat, t0, t1, t5, kal, hltI, hix, hle, hld, hix', hle', hld']
    refine i_callA (fs := []) (cs := []) (fid := 22) ?_ ?_ (exact_ok (cleanT ks[i]) (tmb_clean _ (ha.mem _ hkm)) _ _ hkc hxc.1 _) ?_
    · rfl
    · simp -implicitDefEqProofs only [go_sem, Nat.reduceEqDiff, Nat.reduceAdd, Nat.reduceLeDiff, ↓reduceIte, reduceCtorEq, Int.reduceBEq, Int.reduceBNe, Int.reduceLT, Int.reduceLE, Int.reduceGT, Int.reduceGE, Int.reduceNeg, Int.reduceAdd, Int.reduceSub, Nat.reduceMul, Nat.reduceLT, Int.reduceToNat]
    rintro z H3 ⟨rfl, hHH⟩
    have hHH := hHH.symm
    subst hHH
    simp -implicitDefEqProofs only [go_sem, Nat.reduceEqDiff, Nat.reduceAdd, Nat.reduceLeDiff, ↓reduceIte, reduceCtorEq, Int.reduceBEq, Int.reduceBNe, Int.reduceLT, Int.reduceLE, Int.reduceGT, Int.reduceGE, Int.reduceNeg, Int.reduceAdd, Int.reduceSub, Nat.reduceMul, Nat.reduceLT, Int.reduceToNat, t0, t1, t5, w3]
    simp
  · rintro ⟨tm, H2⟩ ⟨t0, t1, t5, hh⟩
    simp only at t0 t1 t5 hh
    subst hh
    simp -implicitDefEqProofs only [go_sem, Nat.reduceEqDiff, Nat.reduceAdd, Nat.reduceLeDiff, ↓reduceIte, reduceCtorEq, Int.reduceBEq, Int.reduceBNe, Int.reduceLT, Int.reduceLE, Int.reduceGT, Int.reduceGE, Int.reduceNeg, Int.reduceAdd, Int.reduceSub, Nat.reduceMul, Nat.reduceLT, Int.reduceToNat, t0, t1, t5, kal, Int.lt_irrefl]
    exact Ext.refl _

/-- What ask answers: the first term's error. -/
def askF : List Tm → Int
  | [] => 0
  | k :: r => if checkF canF k = 0 then askF r else checkF canF k

set_option maxRecDepth 100000 in
theorem ask_ok (ks : List Tm) (ha : Tm.AllL TmB ks) (x : AV) (cs : List AV) (h1 : SlR ks.length x cs) (h2 : KsR ks cs) (hn : ks.length ≤ 4611686018427387904) (H : AHeap) :
    SCall Try.prog 90 [x] H fun y H' => y = aint (askF ks) ∧ H' = H := by
  have kal : ∀ G, alen G .slice x = some ks.length := fun G => h1.alen G
  refine SCall.val (SCall.intro mixed cf90 ?_)
  simp -implicitDefEqProofs only [c90, go_sem, Nat.reduceEqDiff, Nat.reduceAdd, Nat.reduceLeDiff, ↓reduceIte, reduceCtorEq, Int.reduceBEq, Int.reduceBNe, Int.reduceLT, Int.reduceLE, Int.reduceGT, Int.reduceGE, Int.reduceNeg, Int.reduceAdd, Int.reduceSub, Nat.reduceMul, Nat.reduceLT, Int.reduceToNat, kal]
  refine swp_range ks.length (fun i st => st.tm 6 = x ∧ st.tm 7 = aint ks.length ∧ st.tm 8 = aint i ∧ Ext H st.heap ∧ askF ks = askF (ks.drop i)) ?_ ?_ ?_
  · exact ⟨rfl, rfl, rfl, Ext.refl H, rfl⟩
  · rintro i ⟨tm, H2⟩ hi ⟨t6, t7, t8, hE, hr⟩
    simp only at t6 t7 t8 hE
    have hltI : (i : Int) < (ks.length : Int) := by omega
    have hix := h1.aix 6 hi
    obtain ⟨kc, hkc, hle, hld⟩ := h2.load (List.getElem?_eq_getElem hi)
    have hkm := List.getElem_mem hi
    obtain ⟨ux, vx, us, vs, hk6, hu1, hu2, hv1, hv2⟩ := hkc.six
    have w3 : IntKind.i64.wrap ((i : Int) + 1) = (i : Int) + 1 := i64_ok _ (by omega)
    have hdrop : ks.drop i = ks[i] :: ks.drop (i + 1) := List.drop_eq_getElem_cons hi
    rw [hdrop, askF] at hr
    subst hk6
    simp -implicitDefEqProofs only [go_sem, Nat.reduceEqDiff, Nat.reduceAdd, Nat.reduceLeDiff, ↓reduceIte, reduceCtorEq, Int.reduceBEq, Int.reduceBNe, Int.reduceLT, Int.reduceLE, Int.reduceGT, Int.reduceGE, Int.reduceNeg, Int.reduceAdd, Int.reduceSub, Nat.reduceMul, Nat.reduceLT, Int.reduceToNat, t6, t7, t8, hltI, hix, hle, hld, hu1.one, hu1.cells, hv1.one, hv1.cells]
    refine i_callA (fs := []) (cs := []) (fid := 24) ?_ ?_ (check_ok canF ks[i] (tmb_fine (ha.mem _ hkm)) _ hkc _) ?_
    · rfl
    · simp -implicitDefEqProofs only [go_sem, Nat.reduceEqDiff, Nat.reduceAdd, Nat.reduceLeDiff, ↓reduceIte, reduceCtorEq, Int.reduceBEq, Int.reduceBNe, Int.reduceLT, Int.reduceLE, Int.reduceGT, Int.reduceGE, Int.reduceNeg, Int.reduceAdd, Int.reduceSub, Nat.reduceMul, Nat.reduceLT, Int.reduceToNat]
    rintro y H3 ⟨rfl, hHH⟩
    have hHH := hHH.symm
    subst hHH
    by_cases hc : checkF canF ks[i] = 0
    · rw [if_pos hc] at hr
      have hcb : (checkF canF ks[i] == 0) = true := by rw [hc]; rfl
      simp -implicitDefEqProofs only [go_sem, Nat.reduceEqDiff, Nat.reduceAdd, Nat.reduceLeDiff, ↓reduceIte, reduceCtorEq, Int.reduceBEq, Int.reduceBNe, Int.reduceLT, Int.reduceLE, Int.reduceGT, Int.reduceGE, Int.reduceNeg, Int.reduceAdd, Int.reduceSub, Nat.reduceMul, Nat.reduceLT, Int.reduceToNat, t6, t7, t8, hcb, w3]
      exact ⟨by simp, (hE.new _).set hE.1 _, hr⟩
    · rw [if_neg hc] at hr
      simp -implicitDefEqProofs only [go_sem, Nat.reduceEqDiff, Nat.reduceAdd, Nat.reduceLeDiff, ↓reduceIte, reduceCtorEq, Int.reduceBEq, Int.reduceBNe, Int.reduceLT, Int.reduceLE, Int.reduceGT, Int.reduceGE, Int.reduceNeg, Int.reduceAdd, Int.reduceSub, Nat.reduceMul, Nat.reduceLT, Int.reduceToNat, t6, t7, t8, bne' hc]
      exact ⟨by rw [hr], (hE.new _).set hE.1 _⟩
  · rintro ⟨tm, H2⟩ ⟨t6, t7, t8, hE, hr⟩
    simp only at t6 t7 t8 hE
    rw [List.drop_length, askF] at hr
    simp -implicitDefEqProofs only [go_sem, Nat.reduceEqDiff, Nat.reduceAdd, Nat.reduceLeDiff, ↓reduceIte, reduceCtorEq, Int.reduceBEq, Int.reduceBNe, Int.reduceLT, Int.reduceLE, Int.reduceGT, Int.reduceGE, Int.reduceNeg, Int.reduceAdd, Int.reduceSub, Nat.reduceMul, Nat.reduceLT, Int.reduceToNat, t6, t7, t8, Int.lt_irrefl]
    exact ⟨by rw [hr], hE⟩

/-- A row of truths. -/
def HidR (hs : List Bool) (x : AV) : Prop := (hs.length = 0 ∧ x = nils) ∨ ∃ lo ex cs, x = .ro hs.length lo ex cs ∧ hs.length ≤ lo ∧ cs.take hs.length = hs.map abl
def hidF (hs : List Bool) (i : Nat) : Bool := hs[i]?.getD false
theorem HidR.alen {hs : List Bool} {x : AV} (h : HidR hs x) (G : AHeap) : alen G .slice x = some hs.length := by
  rcases h with ⟨h0, rfl⟩ | ⟨lo, ex, cs, rfl, _⟩
  · rw [h0]; rfl
  · rfl

set_option maxRecDepth 100000 in
theorem hidden1_ok (hs : List Bool) (x : AV) (h : HidR hs x) (i : Nat) (hi : i ≤ 4611686018427387904) (b : Nat) (H : AHeap) (hb : H.get b = some (.cells [x])) :
    SCall Try.prog 137 [aint i, .ptr b 0] H fun y H' => y = abl (hidF hs i) ∧ H' = H := by
  have hone : x.one = true := by
    rcases h with ⟨_, rfl⟩ | ⟨lo, ex, cs, rfl, _⟩ <;> rfl
  have hcells : x.acells = [x] := by
    rcases h with ⟨_, rfl⟩ | ⟨lo, ex, cs, rfl, _⟩ <;> rfl
  refine SCall.intro mixed cf137 ?_
  by_cases hlt : (i : Int) < (hs.length : Int)
  · rcases h with ⟨h0, _⟩ | ⟨lo, ex, cs, rfl, hlo, hcs⟩
    · omega
    have hix : aix 1 (i : Int) (.ro hs.length lo ex cs) = some (.rop cs i) := by
      simp only [aix]
      rw [if_pos (by omega)]
      simp
    have hil : i < hs.length := by omega
    have hg : (cs.drop i).take 1 = [abl hs[i]] := by
      have h1 : cs[i]? = some (abl hs[i]) := by
        have h2 : (cs.take hs.length)[i]? = some (abl hs[i]) := by rw [hcs]; simp [hil]
        rw [List.getElem?_take, if_pos hil] at h2
        exact h2
      have hlt2 := (List.getElem?_eq_some_iff.1 h1).1
      rw [List.drop_eq_getElem_cons hlt2, List.take_succ_cons, List.take_zero, (List.getElem?_eq_some_iff.1 h1).2]
    have hle : i + 1 ≤ cs.length := by
      have := congrArg List.length hcs
      simp at this
      omega
    have hF : hidF hs i = hs[i] := by unfold hidF; rw [List.getElem?_eq_getElem hil]; rfl
    rw [hF]
    simp -implicitDefEqProofs only [c137, go_sem, Nat.reduceEqDiff, Nat.reduceAdd, Nat.reduceLeDiff, ↓reduceIte, reduceCtorEq, Int.reduceBEq, Int.reduceBNe, Int.reduceLT, Int.reduceLE, Int.reduceGT, Int.reduceGE, Int.reduceNeg, Int.reduceAdd, Int.reduceSub, Nat.reduceMul, Nat.reduceLT, Int.reduceToNat, hb, hlt, hix, hg, hle]
  · have hal := h.alen
    have hF : hidF hs i = false := by unfold hidF; rw [List.getElem?_eq_none (by omega)]; rfl
    rw [hF]
    simp -implicitDefEqProofs only [c137, go_sem, Nat.reduceEqDiff, Nat.reduceAdd, Nat.reduceLeDiff, ↓reduceIte, reduceCtorEq, Int.reduceBEq, Int.reduceBNe, Int.reduceLT, Int.reduceLE, Int.reduceGT, Int.reduceGE, Int.reduceNeg, Int.reduceAdd, Int.reduceSub, Nat.reduceMul, Nat.reduceLT, Int.reduceToNat, hb, hone, hcells, hal, hlt]
end Go.Proofs.Ytooaiddfokbffaa.E

/- Rows of one's own turned round: slices.Reverse. Conditions: none. -/
set_option linter.unusedVariables false
set_option linter.unusedSimpArgs false
namespace Go.Proofs.Ytooaiddfokbffaa.E
open Go Go.Proofs
attribute [local go_sem] s_seq s_ops s_draw s_block s_skip s_ret s_exit i_nil i_cons i_run i_runG s_condQ c_true c_false aop ev_t ev_c updO_at updO_no upd_at t_normal t_ret t_exit b_normal b_ret b_exit a_some ac_v ac_agg ac_ptr ac_slc ac_ro ac_rop ac_fn new_next set_next argTm_zero argTm_succ argTm_nil ab_bool ab_uv beq_self_eq_true Option.some_beq_some Bool.not_not beq_iff_eq decide_true decide_false Bool.not_true Bool.not_false afld aload astore apack alen_str alen_ro alen_slc alen_nil new_get set_get ite_true ite_false Option.map_some Option.bind_some ibin isShift Nat.add_zero Nat.zero_add List.length_cons List.length_nil List.drop_zero List.drop_succ_cons List.take_succ_cons List.take_zero if_true if_false setL List.set_cons_zero List.set_cons_succ List.all_cons List.all_nil one_int one_bool one_str one_nil one_ptr one_slc one_ro one_rop one_fn Bool.and_self Bool.and_true true_and and_true and_self Bool.false_eq_true post_ret post_normal resAll resOne packR Option.some.injEq exists_eq_left' List.map_cons List.map_nil List.nil_append List.append_nil List.cons_append d_nil d_cons k_nil k_cons g_op g_same g_new avBlock forall_eq' List.getElem?_cons_succ List.getElem?_cons_zero List.getElem?_nil okind gOk bne false_imp_iff forall_const imp_self implies_true true_imp_iff i_callG

/-- Rows in pieces of one length. -/
def Parts (es : Nat) : List (List AV) → List AV → Prop
  | [], l => l = []
  | p :: r, l => ∃ l', l = p ++ l' ∧ p.length = es ∧ Parts es r l'
theorem Parts.len {es : Nat} : ∀ {ps : List (List AV)} {l : List AV}, Parts es ps l → l.length = ps.length * es
  | [], l, h => by simp only [Parts] at h; subst h; simp
  | p :: r, l, h => by
    simp only [Parts] at h
    obtain ⟨l', rfl, h1, h2⟩ := h
    have := h2.len
    rw [List.length_append, h1, this, List.length_cons, Nat.add_mul]; omega
theorem Parts.flat {es : Nat} : ∀ {ps : List (List AV)} {l : List AV}, Parts es ps l ↔ l = ps.flatten ∧ ∀ p ∈ ps, p.length = es
  | [], l => by simp [Parts]
  | p :: r, l => by
    simp only [Parts, List.flatten_cons, List.mem_cons, forall_eq_or_imp]
    constructor
    · rintro ⟨l', rfl, h1, h2⟩
      obtain ⟨h3, h4⟩ := Parts.flat.1 h2
      exact ⟨by rw [h3], h1, h4⟩
    · rintro ⟨rfl, h1, h2⟩
      exact ⟨_, rfl, h1, Parts.flat.2 ⟨rfl, h2⟩⟩
theorem Parts.at {es : Nat} {ps : List (List AV)} {l : List AV} (h : Parts es ps l) {i : Nat} (hi : i < ps.length) : (l.drop (i * es)).take es = ps[i] ∧ i * es + es ≤ l.length := by
  induction ps generalizing l i with
  | nil => cases hi
  | cons p r ih =>
    have hl := h.len
    simp only [Parts] at h
    obtain ⟨l', rfl, h1, h2⟩ := h
    cases i with
    | zero =>
      rw [Nat.zero_mul, List.drop_zero, List.take_append_of_le_length (by omega), List.take_of_length_le (by omega)]
      exact ⟨rfl, by rw [List.length_append]; omega⟩
    | succ i =>
      obtain ⟨q1, q2⟩ := ih h2 (by simpa using hi)
      have he : (i + 1) * es = p.length + i * es := by rw [Nat.add_mul, h1]; omega
      rw [he, ← List.drop_drop, List.drop_left]
      exact ⟨q1, by rw [List.length_append]; omega⟩
theorem Parts.set {es : Nat} {ps : List (List AV)} {l : List AV} (h : Parts es ps l) {i : Nat} (hi : i < ps.length) {c : List AV} (hc : c.length = es) : Parts es (ps.set i c) (setL l (i * es) c) := by
  induction ps generalizing l i with
  | nil => cases hi
  | cons p r ih =>
    have hlen := (h.at hi).2
    simp only [Parts] at h
    obtain ⟨l', rfl, h1, h2⟩ := h
    rw [setL_eq _ _ _ (by rw [hc]; exact hlen), hc]
    cases i with
    | zero =>
      rw [Nat.zero_mul, List.take_zero, List.nil_append, Nat.zero_add, List.drop_append_of_le_length (by omega), List.drop_of_length_le (by omega), List.nil_append, List.set_cons_zero]
      exact ⟨l', rfl, hc, h2⟩
    | succ i =>
      have hi' : i < r.length := by simpa using hi
      have he : (i + 1) * es = p.length + i * es := by rw [Nat.add_mul, h1]; omega
      have hlen' : i * es + c.length ≤ l'.length := by rw [List.length_append, he] at hlen; omega
      have := ih h2 hi'
      rw [setL_eq _ _ _ hlen', hc] at this
      rw [List.set_cons_succ]
      refine ⟨_, ?_, h1, this⟩
      rw [he, List.take_append, List.take_of_length_le (by omega), Nat.add_sub_cancel_left, Nat.add_assoc, ← List.drop_drop, List.drop_left]
      simp

/-- Turned round from both ends, i pieces far. -/
def Half {α : Type} (ps q : List α) (i : Nat) : Prop := q.length = ps.length ∧ ∀ j, j < ps.length → q[j]? = if j < i ∨ ps.length - i ≤ j then ps[ps.length - 1 - j]? else ps[j]?
theorem Half.zero {α : Type} (ps : List α) : Half ps ps 0 := ⟨rfl, fun j hj => by rw [if_neg (by omega)]⟩
theorem Half.step {α : Type} {ps q : List α} {i : Nat} (h : Half ps q i) (hi : 2 * i + 1 < ps.length) {x y : α} (hx : q[i]? = some x) (hy : q[ps.length - 1 - i]? = some y) : Half ps ((q.set i y).set (ps.length - 1 - i) x) (i + 1) := by
  obtain ⟨h1, h2⟩ := h
  refine ⟨by simp [h1], fun j hj => ?_⟩
  have e1 := h2 i (by omega)
  have e2 := h2 (ps.length - 1 - i) (by omega)
  rw [if_neg (by omega)] at e1 e2
  rw [hx] at e1
  rw [hy] at e2
  by_cases hj1 : j = ps.length - 1 - i
  · subst hj1
    rw [List.getElem?_set_self (by simp [h1]; omega), if_pos (by omega), show ps.length - 1 - (ps.length - 1 - i) = i by omega]
    exact e1
  · rw [List.getElem?_set_ne (fun h => hj1 h.symm)]
    by_cases hj2 : j = i
    · subst hj2
      rw [List.getElem?_set_self (by omega), if_pos (by omega)]
      exact e2
    · rw [List.getElem?_set_ne (fun h => hj2 h.symm), h2 j hj]
      by_cases hc : j < i ∨ ps.length - i ≤ j
      · rw [if_pos hc, if_pos (by omega)]
      · rw [if_neg hc, if_neg (by omega)]
theorem Half.done {α : Type} {ps q : List α} {i : Nat} (h : Half ps q i) (hi : i = ps.length / 2) : q = ps.reverse := by
  obtain ⟨h1, h2⟩ := h
  refine List.ext_getElem? fun j => ?_
  by_cases hj : j < ps.length
  · rw [h2 j hj, List.getElem?_reverse hj]
    split
    · rfl
    · have : ps.length - 1 - j = j := by omega
      rw [this]
  · rw [List.getElem?_eq_none (by omega), List.getElem?_eq_none (by simp; omega)]

set_option maxRecDepth 100000 in
theorem reverse_ok (ps : List (List AV)) (hone : ∀ p ∈ ps, p.all AV.one = true) (hn : ps.length ≤ 1000000) (b : Nat) (ex : Bool) (l : List AV) (hP : Parts 6 ps l) (H : AHeap) (hb : H.get b = some (.cells l)) :
    SCall Try.prog 133 [.slc b 0 6 ps.length ps.length ex] H fun x H' => ∃ l', Parts 6 ps.reverse l' ∧ H' = H.set b (.cells l') := by
  refine SCall.intro mixed cf133 ?_
  have wl : IntKind.i64.wrap ((ps.length : Int) - 1) = (ps.length : Int) - 1 := i64_ok _ (by omega)
  simp -implicitDefEqProofs only [c133, go_sem, Nat.reduceEqDiff, Nat.reduceAdd, Nat.reduceLeDiff, ↓reduceIte, reduceCtorEq, Int.reduceBEq, Int.reduceBNe, Int.reduceLT, Int.reduceLE, Int.reduceGT, Int.reduceGE, Int.reduceNeg, Int.reduceAdd, Int.reduceSub, Nat.reduceMul, Nat.reduceLT, Int.reduceToNat, wl]
  refine swp_range (ps.length / 2) (fun i st => st.tm 0 = .slc b 0 6 ps.length ps.length ex ∧ st.tm 2 = aint i ∧ st.tm 3 = aint ((ps.length : Int) - 1 - i) ∧ ∃ q l', Half ps q i ∧ Parts 6 q l' ∧ (∀ p ∈ q, p.all AV.one = true) ∧ st.heap = H.set b (.cells l')) ?_ ?_ ?_
  · refine ⟨rfl, rfl, ?_, ps, l, .zero ps, hP, hone, (AHeap.set_self hb).symm⟩
    show aint ((ps.length : Int) - 1) = aint ((ps.length : Int) - 1 - ((0 : Nat) : Int))
    simp
  · rintro i ⟨tm, H2⟩ hi ⟨t0, t2, t3, q, l', hH, hQ, hq1, hh⟩
    simp only at t0 t2 t3 hh
    subst hh
    have hi2 : 2 * i + 1 < ps.length := by omega
    have hql := hH.1
    have hj : ps.length - 1 - i < q.length := by omega
    have hi3 : i < q.length := by omega
    have hcast : ((ps.length - 1 - i : Nat) : Int) = (ps.length : Int) - 1 - i := by omega
    have hlt : (i : Int) < (ps.length : Int) - 1 - i := by omega
    obtain ⟨a1, a2⟩ := hQ.at hi3
    obtain ⟨c1, c2⟩ := hQ.at hj
    have hxi : q[i]? = some q[i] := List.getElem?_eq_getElem hi3
    have hxj : q[ps.length - 1 - i]? = some q[ps.length - 1 - i] := List.getElem?_eq_getElem hj
    have ho1 := hq1 _ (List.getElem_mem hi3)
    have ho2 := hq1 _ (List.getElem_mem hj)
    have hf := (Parts.flat.1 hQ).2
    have hl1 := hf _ (List.getElem_mem hi3)
    have hl2 := hf _ (List.getElem_mem hj)
    have hs1 := hQ.set hi3 hl2
    have hs2 := hs1.set (i := ps.length - 1 - i) (by simp; omega) hl1
    have hst := hH.step hi2 hxi hxj
    generalize q[i] = p1 at *
    generalize q[ps.length - 1 - i] = p2 at *
    have hix : aix 6 (i : Int) (.slc b 0 6 ps.length ps.length ex) = some (.ptr b (i * 6)) := by
      simp only [aix]
      rw [if_pos (by omega)]
      simp
    have hjx : aix 6 ((ps.length : Int) - 1 - i) (.slc b 0 6 ps.length ps.length ex) = some (.ptr b ((ps.length - 1 - i) * 6)) := by
      rw [← hcast]
      simp only [aix]
      rw [if_pos (by omega)]
      simp
    have w1 : IntKind.i64.wrap ((i : Int) + 1) = (i : Int) + 1 := i64_ok _ (by omega)
    have w2 : IntKind.i64.wrap ((ps.length : Int) - 1 - i - 1) = (ps.length : Int) - 1 - i - 1 := i64_ok _ (by omega)
    have hlen1 : (ps.length - 1 - i) * 6 + 6 ≤ (setL l' (i * 6) p2).length := by rw [setL_length]; exact c2
    simp -implicitDefEqProofs only [go_sem, Nat.reduceEqDiff, Nat.reduceAdd, Nat.reduceLeDiff, ↓reduceIte, reduceCtorEq, Int.reduceBEq, Int.reduceBNe, Int.reduceLT, Int.reduceLE, Int.reduceGT, Int.reduceGE, Int.reduceNeg, Int.reduceAdd, Int.reduceSub, Nat.reduceMul, Nat.reduceLT, Int.reduceToNat, t0, t2, t3, hlt, hix, hjx, a1, a2, c1, c2, ho1, ho2, hl1, hl2, hlen1, w1, w2]
    have hss : ∀ (H : AHeap) (o o' : AObj), (H.set b o).set b o' = H.set b o' := fun H o o' => by
      cases H
      simp only [AHeap.set, AHeap.mk.injEq, and_true]
      funext x
      by_cases hx : x = b
      · simp [hx]
      · simp [hx]
    refine ⟨by simp, by rw [show (ps.length : Int) - 1 - i - 1 = (ps.length : Int) - 1 - ((i + 1 : Nat) : Int) by omega], _, _, hst, hs2, fun p hp => ?_, by rw [hss, hss]⟩
    rcases List.mem_or_eq_of_mem_set hp with hp | rfl
    · rcases List.mem_or_eq_of_mem_set hp with hp | rfl
      · exact hq1 p hp
      · exact ho2
    · exact ho1
  · rintro ⟨tm, H2⟩ ⟨t0, t2, t3, q, l', hH, hQ, hq1, hh⟩
    simp only at t0 t2 t3 hh
    subst hh
    have hlt : ¬ (((ps.length / 2 : Nat)) : Int) < (ps.length : Int) - 1 - ((ps.length / 2 : Nat) : Int) := by omega
    simp -implicitDefEqProofs only [go_sem, Nat.reduceEqDiff, Nat.reduceAdd, Nat.reduceLeDiff, ↓reduceIte, reduceCtorEq, Int.reduceBEq, Int.reduceBNe, Int.reduceLT, Int.reduceLE, Int.reduceGT, Int.reduceGE, Int.reduceNeg, Int.reduceAdd, Int.reduceSub, Nat.reduceMul, Nat.reduceLT, Int.reduceToNat, t0, t2, t3, hlt]
    exact ⟨l', by rw [← hH.done rfl]; exact hQ, rfl⟩
set_option maxRecDepth 100000 in
theorem reverse1_ok (ps : List (List AV)) (hone : ∀ p ∈ ps, ∃ v : Bool, p = [abl v]) (hn : ps.length ≤ 1000000) (b : Nat) (ex : Bool) (l : List AV) (hP : Parts 1 ps l) (H : AHeap) (hb : H.get b = some (.cells l)) :
    SCall Try.prog 134 [.slc b 0 1 ps.length ps.length ex] H fun x H' => ∃ l', Parts 1 ps.reverse l' ∧ H' = H.set b (.cells l') := by
  refine SCall.intro mixed cf134 ?_
  have wl : IntKind.i64.wrap ((ps.length : Int) - 1) = (ps.length : Int) - 1 := i64_ok _ (by omega)
  simp -implicitDefEqProofs only [c134, go_sem, Nat.reduceEqDiff, Nat.reduceAdd, Nat.reduceLeDiff, ↓reduceIte, reduceCtorEq, Int.reduceBEq, Int.reduceBNe, Int.reduceLT, Int.reduceLE, Int.reduceGT, Int.reduceGE, Int.reduceNeg, Int.reduceAdd, Int.reduceSub, Nat.reduceMul, Nat.reduceLT, Int.reduceToNat, wl]
  refine swp_range (ps.length / 2) (fun i st => st.tm 0 = .slc b 0 1 ps.length ps.length ex ∧ st.tm 2 = aint i ∧ st.tm 3 = aint ((ps.length : Int) - 1 - i) ∧ ∃ q l', Half ps q i ∧ Parts 1 q l' ∧ (∀ p ∈ q, ∃ v : Bool, p = [abl v]) ∧ st.heap = H.set b (.cells l')) ?_ ?_ ?_
  · refine ⟨rfl, rfl, ?_, ps, l, .zero ps, hP, hone, (AHeap.set_self hb).symm⟩
    show aint ((ps.length : Int) - 1) = aint ((ps.length : Int) - 1 - ((0 : Nat) : Int))
    simp
  · rintro i ⟨tm, H2⟩ hi ⟨t0, t2, t3, q, l', hH, hQ, hq1, hh⟩
    simp only at t0 t2 t3 hh
    subst hh
    have hi2 : 2 * i + 1 < ps.length := by omega
    have hql := hH.1
    have hj : ps.length - 1 - i < q.length := by omega
    have hi3 : i < q.length := by omega
    have hcast : ((ps.length - 1 - i : Nat) : Int) = (ps.length : Int) - 1 - i := by omega
    have hlt : (i : Int) < (ps.length : Int) - 1 - i := by omega
    obtain ⟨a1, a2⟩ := hQ.at hi3
    obtain ⟨c1, c2⟩ := hQ.at hj
    have hxi : q[i]? = some q[i] := List.getElem?_eq_getElem hi3
    have hxj : q[ps.length - 1 - i]? = some q[ps.length - 1 - i] := List.getElem?_eq_getElem hj
    have ho1 := hq1 _ (List.getElem_mem hi3)
    have ho2 := hq1 _ (List.getElem_mem hj)
    have hf := (Parts.flat.1 hQ).2
    have hl1 := hf _ (List.getElem_mem hi3)
    have hl2 := hf _ (List.getElem_mem hj)
    have hs1 := hQ.set hi3 hl2
    have hs2 := hs1.set (i := ps.length - 1 - i) (by simp; omega) hl1
    have hst := hH.step hi2 hxi hxj
    generalize q[i] = p1 at *
    generalize q[ps.length - 1 - i] = p2 at *
    obtain ⟨v1, rfl⟩ := ho1
    obtain ⟨v2, rfl⟩ := ho2
    have hix : aix 1 (i : Int) (.slc b 0 1 ps.length ps.length ex) = some (.ptr b (i * 1)) := by
      simp only [aix]
      rw [if_pos (by omega)]
      simp
    have hjx : aix 1 ((ps.length : Int) - 1 - i) (.slc b 0 1 ps.length ps.length ex) = some (.ptr b ((ps.length - 1 - i) * 1)) := by
      rw [← hcast]
      simp only [aix]
      rw [if_pos (by omega)]
      simp
    have w1 : IntKind.i64.wrap ((i : Int) + 1) = (i : Int) + 1 := i64_ok _ (by omega)
    have w2 : IntKind.i64.wrap ((ps.length : Int) - 1 - i - 1) = (ps.length : Int) - 1 - i - 1 := i64_ok _ (by omega)
    have hlen1 : (ps.length - 1 - i) * 1 + 1 ≤ (l'.set (i * 1) (abl v2)).length := by rw [List.length_set]; exact c2
    simp -implicitDefEqProofs only [go_sem, Nat.reduceEqDiff, Nat.reduceAdd, Nat.reduceLeDiff, ↓reduceIte, reduceCtorEq, Int.reduceBEq, Int.reduceBNe, Int.reduceLT, Int.reduceLE, Int.reduceGT, Int.reduceGE, Int.reduceNeg, Int.reduceAdd, Int.reduceSub, Nat.reduceMul, Nat.reduceLT, Int.reduceToNat, t0, t2, t3, hlt, hix, hjx, a1, a2, c1, c2, hlen1, w1, w2]
    have hss : ∀ (H : AHeap) (o o' : AObj), (H.set b o).set b o' = H.set b o' := fun H o o' => by
      cases H
      simp only [AHeap.set, AHeap.mk.injEq, and_true]
      funext x
      by_cases hx : x = b
      · simp [hx]
      · simp [hx]
    refine ⟨by simp, by rw [show (ps.length : Int) - 1 - i - 1 = (ps.length : Int) - 1 - ((i + 1 : Nat) : Int) by omega], _, _, hst, hs2, fun p hp => ?_, by rw [hss, hss]; rfl⟩
    rcases List.mem_or_eq_of_mem_set hp with hp | rfl
    · rcases List.mem_or_eq_of_mem_set hp with hp | rfl
      · exact hq1 p hp
      · exact ⟨v2, rfl⟩
    · exact ⟨v1, rfl⟩
  · rintro ⟨tm, H2⟩ ⟨t0, t2, t3, q, l', hH, hQ, hq1, hh⟩
    simp only at t0 t2 t3 hh
    subst hh
    have hlt : ¬ (((ps.length / 2 : Nat)) : Int) < (ps.length : Int) - 1 - ((ps.length / 2 : Nat) : Int) := by omega
    simp -implicitDefEqProofs only [go_sem, Nat.reduceEqDiff, Nat.reduceAdd, Nat.reduceLeDiff, ↓reduceIte, reduceCtorEq, Int.reduceBEq, Int.reduceBNe, Int.reduceLT, Int.reduceLE, Int.reduceGT, Int.reduceGE, Int.reduceNeg, Int.reduceAdd, Int.reduceSub, Nat.reduceMul, Nat.reduceLT, Int.reduceToNat, t0, t2, t3, hlt]
    exact ⟨l', by rw [← hH.done rfl]; exact hQ, rfl⟩
end Go.Proofs.Ytooaiddfokbffaa.E
