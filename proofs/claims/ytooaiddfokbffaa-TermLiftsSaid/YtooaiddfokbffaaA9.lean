/- The row TermLifts: whatever the input, the law answers true. Conditions: none. -/
import Derived.Test.YtooaiddfokbffaaA8
import Derived.Test.YtooaiddfokbffaaRows
import Derived.WalkKit
import Derived.ProofKit
import Derived.OpenShut
import Derived.ShutString
import Derived.ChangeOld
import Derived.Below
import Derived.SizedLaws
import Derived.Carry
/- Terms lifted as the reference does it. Conditions: none. -/
set_option linter.unusedVariables false
set_option linter.unusedSimpArgs false
namespace Go.Proofs.Ytooaiddfokbffaa.E
open Go Go.Proofs
attribute [local go_sem] s_seq s_ops s_draw s_block s_skip s_ret s_exit i_nil i_cons i_run i_runG s_condQ c_true c_false aop ev_t ev_c updO_at updO_no upd_at t_normal t_ret t_exit b_normal b_ret b_exit a_some ac_v ac_agg ac_ptr ac_slc ac_ro ac_rop ac_fn new_next set_next argTm_zero argTm_succ argTm_nil ab_bool ab_uv beq_self_eq_true Option.some_beq_some Bool.not_not beq_iff_eq decide_true decide_false Bool.not_true Bool.not_false afld aload astore apack alen_str alen_ro alen_slc alen_nil new_get set_get ite_true ite_false Option.map_some Option.bind_some ibin isShift Nat.add_zero Nat.zero_add List.length_cons List.length_nil List.drop_zero List.drop_succ_cons List.take_succ_cons List.take_zero if_true if_false setL List.set_cons_zero List.set_cons_succ List.all_cons List.all_nil one_int one_bool one_str one_nil one_ptr one_slc one_ro one_rop one_fn Bool.and_self Bool.and_true true_and and_true and_self Bool.false_eq_true post_ret post_normal resAll resOne packR Option.some.injEq exists_eq_left' List.map_cons List.map_nil List.nil_append List.append_nil List.cons_append d_nil d_cons k_nil k_cons g_op g_same g_new avBlock forall_eq' List.getElem?_cons_succ List.getElem?_cons_zero List.getElem?_nil okind gOk bne false_imp_iff forall_const imp_self implies_true true_imp_iff i_callG

/-- Terms in cells, one behind the other, none of them leading to a block. -/
def KsX : List Tm → List AV → Prop
  | [], cs => cs = []
  | k :: r, cs => ∃ c cs', cs = c ++ cs' ∧ TmP k c ∧ KsX r cs'
theorem KsX.len : ∀ {ks : List Tm} {cs : List AV}, KsX ks cs → cs.length = ks.length * 6
  | [], cs, h => by simp only [KsX] at h; subst h; rfl
  | k :: r, cs, h => by
    simp only [KsX] at h
    obtain ⟨c, cs', rfl, h1, h2⟩ := h
    have := KsX.len h2
    have := h1.1.len
    simp; omega
theorem KsX.old : ∀ {ks : List Tm} {cs : List AV}, KsX ks cs → ∀ y ∈ cs, Old 0 y
  | [], cs, h, y, hy => by simp only [KsX] at h; subst h; cases hy
  | k :: r, cs, h, y, hy => by
    simp only [KsX] at h
    obtain ⟨c, cs', rfl, h1, h2⟩ := h
    rcases List.mem_append.1 hy with hy | hy
    · exact h1.2 y hy
    · exact KsX.old h2 y hy
theorem KsX.snoc : ∀ {ks : List Tm} {cs : List AV} {k : Tm} {c : List AV}, KsX ks cs → TmP k c → KsX (ks ++ [k]) (cs ++ c)
  | [], cs, k, c, h, hc => by simp only [KsX] at h; subst h; exact ⟨c, [], by simp, hc, rfl⟩
  | k0 :: r, cs, k, c, h, hc => by
    simp only [KsX] at h
    obtain ⟨c0, cs', rfl, h1, h2⟩ := h
    exact ⟨c0, cs' ++ c, by simp, h1, KsX.snoc h2 hc⟩
theorem KsX.rel : ∀ {ks : List Tm} {cs : List AV}, KsX ks cs → KsR ks cs
  | [], cs, h => trivial
  | k :: r, cs, h => by
    simp only [KsX] at h
    obtain ⟨c, cs', rfl, h1, h2⟩ := h
    have hl := h1.1.len
    simp only [KsR]
    rw [List.take_append_of_le_length (by omega), List.take_of_length_le (by omega), List.drop_append_of_le_length (by omega), List.drop_of_length_le (by omega), List.nil_append]
    exact ⟨h1.1, h2.rel⟩

/-- A row of terms that leads to no block. -/
def SlK (ks : List Tm) (x : AV) : Prop := (∃ cs, SlR ks.length x cs ∧ KsR ks cs) ∧ Old 0 x
theorem SlK.of {ks : List Tm} {y : AV} {cs : List AV} (hc : KsX ks cs) (h : (ks.length = 0 ∧ y = .v (.slice none 0 0)) ∨ ∃ lo ex, y = .ro ks.length lo ex cs ∧ ks.length ≤ lo) : SlK ks y := by
  refine ⟨⟨_, h, hc.rel⟩, ?_⟩
  rcases h with ⟨_, rfl⟩ | ⟨lo, ex, rfl, _⟩
  · exact .v _
  · exact .ro _ _ _ _ hc.old
theorem slk_nil : SlK [] nils := ⟨⟨[], .inl ⟨rfl, rfl⟩, trivial⟩, .v _⟩
theorem tmp_mk {f n : Int} {h : Bool} {s : ByteArray} {lv : List Lv} {ks : List Tm} {x y : AV} (hx : SlL lv x) (hy : SlK ks y) : TmP (.mk f n h s lv ks) [aint f, aint n, abl h, .v (.string s), x, y] := by
  obtain ⟨⟨cs, h1, h2⟩, h3⟩ := hx
  obtain ⟨⟨ds, g1, g2⟩, g3⟩ := hy
  refine ⟨?_, fun z hz => ?_⟩
  · simp only [TmR]
    exact ⟨x, y, cs, ds, rfl, h1, h2, g1, g2⟩
  · simp at hz
    rcases hz with rfl | rfl | rfl | rfl | rfl | rfl
    · exact .v _
    · exact .v _
    · exact .v _
    · exact .v _
    · exact h3
    · exact g3

/-- An answer of a term whose row of kids was made by appending, frozen. -/
theorem frz_app {N : Nat} {H' : AHeap} {f n : Int} {h : Bool} {s : ByteArray} {lv : List Lv} {ks : List Tm} {x y : AV} {l : List AV} {base : Nat} (hx : SlL lv x) (hO : OutS H' base 6 ks.length l y) (hb : N ≤ base) (hX : KsX ks l) :
    ∃ z, FrzN N H' (.agg [aint f, aint n, abl h, .v (.string s), x, y]) z ∧ ∃ c, z = .agg c ∧ TmP (.mk f n h s lv ks) c := by
  obtain ⟨z, h3, h4⟩ := hO.frzOld hb (fun y hy => (hX.old y hy).mono (Nat.zero_le _))
  exact ⟨_, FrzN.six (.keep _ (.v _)) (.keep _ (.v _)) (.keep _ (.v _)) (.keep _ (.v _)) (.keep _ (hx.2.mono (Nat.zero_le _))) h3, _, rfl, tmp_mk hx (SlK.of hX h4)⟩

mutual
def rlT (fr by_ : Int) : Tm → Tm
  | .mk f n h s lv ks => if f = 1 ∧ n ≥ fr then .mk f (n + by_) h s lv ks else .mk f n h s lv (rlK fr by_ f 0 ks)
def rlK (fr by_ f : Int) (i : Nat) : List Tm → List Tm
  | [] => []
  | k :: r => rlT (underF f i fr) by_ k :: rlK fr by_ f (i + 1) r
end
theorem rlK_len (fr by_ f : Int) : ∀ (ks : List Tm) (i : Nat), (rlK fr by_ f i ks).length = ks.length
  | [], _ => rfl
  | k :: r, i => by simp [rlK, rlK_len fr by_ f r]
theorem rlK_take (fr by_ f : Int) : ∀ (ks : List Tm) (j i : Nat) (hi : i < ks.length), rlK fr by_ f j (ks.take (i + 1)) = rlK fr by_ f j (ks.take i) ++ [rlT (underF f (j + i : Nat) fr) by_ ks[i]]
  | k :: r, j, 0, _ => by simp [rlK]
  | k :: r, j, i + 1, hi => by
    simp only [List.take_succ_cons, rlK, List.cons_append, List.getElem_cons_succ]
    rw [rlK_take fr by_ f r (j + 1) i (by simpa using hi), show j + 1 + i = j + (i + 1) by omega]

set_option maxRecDepth 100000 in
theorem rl_ok (by_ : Int) (hby : 0 ≤ by_ ∧ by_ ≤ 1073741824) : ∀ t, Tm.All TmB t → Tm.All Vn t → ∀ (cells : List AV), TmP t cells → ∀ (fr : Int), 0 ≤ fr → fr + htT t ≤ 4611686018427387904 → ∀ (H : AHeap),
    SCall Try.prog 79 [.agg cells, aint fr, aint by_] H fun x H' => (∃ c, x = .agg c ∧ TmP (rlT fr by_ t) c) ∧ H' = H := by
  refine Tm.rule fun f n hid s lv ks ih ha hv cells hT fr h0 h1 H => ?_
  have hT' := hT
  have hTc := hT.1
  obtain ⟨lx, kx, ls, cs, rfl, hl1, hl2, hk1, hk2⟩ := hTc.six
  simp only [Tm.All, Tm.form, Tm.n, Tm.hid, Tm.name, Tm.lv, Tm.kids] at *
  obtain ⟨hTB, a5⟩ := ha
  obtain ⟨hv1, hv2⟩ := hv
  have hTB' := hTB
  simp only [TmB, Tm.form, Tm.n, Tm.name, Tm.lv, Tm.kids] at hTB'
  obtain ⟨_, _, b1, b2, b3, b4⟩ := hTB'
  simp only [Vn, Tm.form, Tm.n] at hv1
  have hht : htT (.mk f n hid s lv ks) = 1 + htK ks := by simp only [htT]
  rw [hht] at h1
  have hlx : SlL lv lx := ⟨⟨ls, hl1, hl2⟩, hT'.2 lx (by simp)⟩
  have hkx : SlK ks kx := ⟨⟨cs, hk1, hk2⟩, hT'.2 kx (by simp)⟩
  have e1 : ¬ H.next = H.next + 1 := by omega
  have e2 : ¬ H.next + 1 = H.next := by omega
  have p1 := hl1.one
  have p2 := hl1.cells
  have p3 := hk1.one
  have p4 := hk1.cells
  have keep : ∀ {u : Tm} {xc : List AV} {H' : AHeap}, TmP u xc → ∃ y, FrzN H.next H' (.agg xc) y ∧ ∃ c, y = .agg c ∧ TmP u c := fun h => ⟨_, tmp_keep h, _, rfl, h⟩
  refine SCall.frz (R := fun x H' => Ext H H' ∧ ∃ y, FrzN H.next H' x y ∧ ∃ c, y = .agg c ∧ TmP (rlT fr by_ (.mk f n hid s lv ks)) c) (SCall.intro mixed cf79 ?_) (fun _ _ x H' ⟨h1, y, h2, h3⟩ _ => ⟨h1, y, h2, h3⟩)
  rw [rlT]
  by_cases hf : f = 1 ∧ n ≥ fr
  · obtain ⟨rfl, hn⟩ := hf
    have hvn := hv1 rfl
    rw [if_pos ⟨rfl, hn⟩]
    have w1 : IntKind.i64.wrap (n + by_) = n + by_ := i64_ok _ (by omega)
    simp -implicitDefEqProofs only [c79, go_sem, Nat.reduceEqDiff, Nat.reduceAdd, Nat.reduceLeDiff, ↓reduceIte, reduceCtorEq, Int.reduceBEq, Int.reduceBNe, Int.reduceLT, Int.reduceLE, Int.reduceGT, Int.reduceGE, Int.reduceNeg, Int.reduceAdd, Int.reduceSub, Nat.reduceMul, Nat.reduceLT, Int.reduceToNat, p1, p2, p3, p4, e1, e2, hn, w1]
    exact ⟨((((Ext.refl H).new _).new _).set (by omega) _).set (by omega) _, keep (tmp_mk hlx hkx)⟩
  rw [if_neg hf]
  by_cases hk0 : ks.length = 0
  · have hks : ks = [] := List.length_eq_zero_iff.1 hk0
    subst hks
    have kal : ∀ G, alen G .slice kx = some 0 := fun G => hk1.alen G
    by_cases hf1 : f = 1
    · subst hf1
      have hn : ¬ n ≥ fr := fun h => hf ⟨rfl, h⟩
      simp -implicitDefEqProofs only [c79, go_sem, Nat.reduceEqDiff, Nat.reduceAdd, Nat.reduceLeDiff, ↓reduceIte, reduceCtorEq, Int.reduceBEq, Int.reduceBNe, Int.reduceLT, Int.reduceLE, Int.reduceGT, Int.reduceGE, Int.reduceNeg, Int.reduceAdd, Int.reduceSub, Nat.reduceMul, Nat.reduceLT, Int.reduceToNat, p1, p2, p3, p4, e1, e2, hn, kal, Int.natCast_zero]
      exact ⟨(((Ext.refl H).new _).new _).set (by omega) _, keep hT'⟩
    · simp -implicitDefEqProofs only [c79, go_sem, Nat.reduceEqDiff, Nat.reduceAdd, Nat.reduceLeDiff, ↓reduceIte, reduceCtorEq, Int.reduceBEq, Int.reduceBNe, Int.reduceLT, Int.reduceLE, Int.reduceGT, Int.reduceGE, Int.reduceNeg, Int.reduceAdd, Int.reduceSub, Nat.reduceMul, Nat.reduceLT, Int.reduceToNat, p1, p2, p3, p4, e1, e2, bne' hf1, kal, Int.natCast_zero]
      exact ⟨(((Ext.refl H).new _).new _).set (by omega) _, keep hT'⟩
  have kal : ∀ G, alen G .slice kx = some ks.length := fun G => hk1.alen G
  have hkb : ((ks.length : Int) == 0) = false := bne' (by omega)
  have hkxo : Old 0 kx := hT'.2 kx (by simp)
  have hcso : ∀ y ∈ cs, Old 0 y := by
    rcases hk1 with ⟨h, _⟩ | ⟨lo, ex, rfl, _⟩
    · exact absurd h hk0
    · cases hkxo with | ro _ _ _ _ h => exact h
  by_cases hf1 : f = 1
  · have hn : ¬ n ≥ fr := fun h => hf ⟨hf1, h⟩
    have hf1' : (f == 1) = true := by rw [hf1]; rfl
    simp -implicitDefEqProofs only [c79, go_sem, Nat.reduceEqDiff, Nat.reduceAdd, Nat.reduceLeDiff, ↓reduceIte, reduceCtorEq, Int.reduceBEq, Int.reduceBNe, Int.reduceLT, Int.reduceLE, Int.reduceGT, Int.reduceGE, Int.reduceNeg, Int.reduceAdd, Int.reduceSub, Nat.reduceMul, Nat.reduceLT, Int.reduceToNat, p1, p2, p3, p4, e1, e2, hn, hf1', kal, hkb]
    refine swp_range ks.length (fun i st => st.tm 1 = aint fr ∧ st.tm 2 = aint by_ ∧ st.tm 3 = .ptr H.next 0 ∧ st.tm 6 = .ptr (H.next + 1) 0 ∧ st.tm 8 = aint i ∧ H.next + 2 ≤ st.heap.next ∧ Ext H st.heap ∧
      st.heap.get H.next = some (.cells [aint f, aint n, abl hid, .v (.string s), lx, kx]) ∧ st.heap.get (H.next + 1) = some (.cells z6) ∧ ∃ x l, st.tm 7 = x ∧ OutS st.heap (H.next + 2) 6 i l x ∧ KsX (rlK fr by_ f 0 (ks.take i)) l) ?_ ?_ ?_
    · refine ⟨rfl, rfl, rfl, rfl, rfl, Nat.le_refl _, ((Ext.refl H).new _).new _, ?_, ?_, _, [], rfl, .nil, rfl⟩
      · simp -implicitDefEqProofs only [go_sem, Nat.reduceEqDiff, Nat.reduceAdd, Nat.reduceLeDiff, ↓reduceIte, reduceCtorEq, Int.reduceBEq, Int.reduceBNe, Int.reduceLT, Int.reduceLE, Int.reduceGT, Int.reduceGE, Int.reduceNeg, Int.reduceAdd, Int.reduceSub, Nat.reduceMul, Nat.reduceLT, Int.reduceToNat, e1, e2]
      · simp -implicitDefEqProofs only [go_sem, Nat.reduceEqDiff, Nat.reduceAdd, Nat.reduceLeDiff, ↓reduceIte, reduceCtorEq, Int.reduceBEq, Int.reduceBNe, Int.reduceLT, Int.reduceLE, Int.reduceGT, Int.reduceGE, Int.reduceNeg, Int.reduceAdd, Int.reduceSub, Nat.reduceMul, Nat.reduceLT, Int.reduceToNat]
    · rintro i ⟨tm, H2⟩ hi ⟨t1, t2, t3, t6, t8, hnx, hE, hg, hg1, x, l, t7, hO, hX⟩
      simp only at t1 t2 t3 t6 t7 t8 hnx hE hg hg1 hO
      have hltI : (i : Int) < (ks.length : Int) := by omega
      have hix := hk1.aix 6 hi
      obtain ⟨kc, hkc, hle, hld⟩ := hk2.load (List.getElem?_eq_getElem hi)
      have hkm := List.getElem_mem hi
      have hub := underF_bound f i fr
      have hh := htK_mem hkm
      have hkP : TmP ks[i] kc := ⟨hkc, fun y hy => hcso y (by rw [← hld] at hy; exact List.mem_of_mem_drop (List.mem_of_mem_take hy))⟩
      obtain ⟨ux, vx, hk6, q1, q2, q3, q4, q5, q6, q7, q8⟩ := hkP.six
      have w3 : IntKind.i64.wrap ((i : Int) + 1) = (i : Int) + 1 := i64_ok _ (by omega)
      have w4 : IntKind.i64.wrap (fr + 1) = fr + 1 := i64_ok _ (by omega)
      by_cases hu : (i : Int) = 1
      · have hib : ((i : Int) == 1) = true := by rw [hu]; rfl
        simp -implicitDefEqProofs only [go_sem, Nat.reduceEqDiff, Nat.reduceAdd, Nat.reduceLeDiff, ↓reduceIte, reduceCtorEq, Int.reduceBEq, Int.reduceBNe, Int.reduceLT, Int.reduceLE, Int.reduceGT, Int.reduceGE, Int.reduceNeg, Int.reduceAdd, Int.reduceSub, Nat.reduceMul, Nat.reduceLT, Int.reduceToNat, t1, t2, t3, t6, t7, t8, hg, kal, hltI, hib]
        refine i_callA (fs := []) (cs := []) (fid := 127) ?_ ?_ (binds2_ok f _) ?_
        · rfl
        · simp -implicitDefEqProofs only [go_sem, Nat.reduceEqDiff, Nat.reduceAdd, Nat.reduceLeDiff, ↓reduceIte, reduceCtorEq, Int.reduceBEq, Int.reduceBNe, Int.reduceLT, Int.reduceLE, Int.reduceGT, Int.reduceGE, Int.reduceNeg, Int.reduceAdd, Int.reduceSub, Nat.reduceMul, Nat.reduceLT, Int.reduceToNat]
        rintro x H3 ⟨rfl, hHH⟩
        have hHH := hHH.symm
        subst hHH
        cases hbf : bindsF f with
        | true =>
          have hun : underF f i fr = fr + 1 := by simp [underF, hu, hbf]
          simp -implicitDefEqProofs only [go_sem, Nat.reduceEqDiff, Nat.reduceAdd, Nat.reduceLeDiff, ↓reduceIte, reduceCtorEq, Int.reduceBEq, Int.reduceBNe, Int.reduceLT, Int.reduceLE, Int.reduceGT, Int.reduceGE, Int.reduceNeg, Int.reduceAdd, Int.reduceSub, Nat.reduceMul, Nat.reduceLT, Int.reduceToNat, t1, t2, t3, t6, t7, t8, hg, hix, hle, hld, q1, q2, q3, q4, w4]
          refine i_callA (fs := []) (cs := []) (fid := 79) ?_ ?_ (ih ks[i] hkm (a5.mem _ hkm) (hv2.mem _ hkm) _ hkP (fr + 1) (by omega) (by omega) _) ?_
          · rfl
          · simp -implicitDefEqProofs only [go_sem, Nat.reduceEqDiff, Nat.reduceAdd, Nat.reduceLeDiff, ↓reduceIte, reduceCtorEq, Int.reduceBEq, Int.reduceBNe, Int.reduceLT, Int.reduceLE, Int.reduceGT, Int.reduceGE, Int.reduceNeg, Int.reduceAdd, Int.reduceSub, Nat.reduceMul, Nat.reduceLT, Int.reduceToNat, t2]
          rintro x H3 ⟨⟨xc, rfl, hxc⟩, hHH⟩
          have hHH := hHH.symm
          subst hHH
          obtain ⟨zl, zk, hx6, z1, z2, z3, z4, z5, z6', z7, z8⟩ := hxc.six
          subst hx6
          simp -implicitDefEqProofs only [go_sem, Nat.reduceEqDiff, Nat.reduceAdd, Nat.reduceLeDiff, ↓reduceIte, reduceCtorEq, Int.reduceBEq, Int.reduceBNe, Int.reduceLT, Int.reduceLE, Int.reduceGT, Int.reduceGE, Int.reduceNeg, Int.reduceAdd, Int.reduceSub, Nat.reduceMul, Nat.reduceLT, Int.reduceToNat, t1, t2, t3, t6, t7, t8, z1, z2, z3, z4, afill]
          refine (hO.new _).step (m := 1) (new := [aint (rlT (fr + 1) by_ ks[i]).form, aint (rlT (fr + 1) by_ ks[i]).n, abl (rlT (fr + 1) by_ ks[i]).hid, .v (.string (rlT (fr + 1) by_ ks[i]).name), zl, zk]) (asrc_slc (c := [aint (rlT (fr + 1) by_ ks[i]).form, aint (rlT (fr + 1) by_ ks[i]).n, abl (rlT (fr + 1) by_ ks[i]).hid, .v (.string (rlT (fr + 1) by_ ks[i]).name), zl, zk]) (by rw [new_get]; exact if_pos rfl) (by simp)) z8 (by omega) (by omega) ⟨by omega, by omega⟩ rfl (by rw [new_next]; omega) fun x' G' r6 r7 r8 => ?_
          rw [new_next] at r7
          have hGo : ∀ b, b < H.next + 2 → G'.get b = H2.get b := fun b hb => by
            rw [r8 b (by rw [new_next]; omega) (hO.notlow (by omega)), new_get, if_neg (by omega)]
          simp -implicitDefEqProofs only [go_sem, Nat.reduceEqDiff, Nat.reduceAdd, Nat.reduceLeDiff, ↓reduceIte, reduceCtorEq, Int.reduceBEq, Int.reduceBNe, Int.reduceLT, Int.reduceLE, Int.reduceGT, Int.reduceGE, Int.reduceNeg, Int.reduceAdd, Int.reduceSub, Nat.reduceMul, Nat.reduceLT, Int.reduceToNat, t8, w3]
          refine ⟨t1, t2, t3, t6, by simp, by omega, ⟨by have := hE.1; omega, fun b hb => by rw [hGo b (by omega)]; exact hE.2 b hb⟩, (hGo _ (by omega)).trans hg, (hGo _ (by omega)).trans hg1, _, _, rfl, r6, ?_⟩
          rw [rlK_take fr by_ f ks 0 i hi, Nat.zero_add, hun]
          exact hX.snoc hxc
        | false =>
          have hun : underF f i fr = fr := by simp [underF, hbf]
          simp -implicitDefEqProofs only [go_sem, Nat.reduceEqDiff, Nat.reduceAdd, Nat.reduceLeDiff, ↓reduceIte, reduceCtorEq, Int.reduceBEq, Int.reduceBNe, Int.reduceLT, Int.reduceLE, Int.reduceGT, Int.reduceGE, Int.reduceNeg, Int.reduceAdd, Int.reduceSub, Nat.reduceMul, Nat.reduceLT, Int.reduceToNat, t1, t2, t3, t6, t7, t8, hg, hix, hle, hld, q1, q2, q3, q4, w4]
          refine i_callA (fs := []) (cs := []) (fid := 79) ?_ ?_ (ih ks[i] hkm (a5.mem _ hkm) (hv2.mem _ hkm) _ hkP (fr) (by omega) (by omega) _) ?_
          · rfl
          · simp -implicitDefEqProofs only [go_sem, Nat.reduceEqDiff, Nat.reduceAdd, Nat.reduceLeDiff, ↓reduceIte, reduceCtorEq, Int.reduceBEq, Int.reduceBNe, Int.reduceLT, Int.reduceLE, Int.reduceGT, Int.reduceGE, Int.reduceNeg, Int.reduceAdd, Int.reduceSub, Nat.reduceMul, Nat.reduceLT, Int.reduceToNat, t2]
          rintro x H3 ⟨⟨xc, rfl, hxc⟩, hHH⟩
          have hHH := hHH.symm
          subst hHH
          obtain ⟨zl, zk, hx6, z1, z2, z3, z4, z5, z6', z7, z8⟩ := hxc.six
          subst hx6
          simp -implicitDefEqProofs only [go_sem, Nat.reduceEqDiff, Nat.reduceAdd, Nat.reduceLeDiff, ↓reduceIte, reduceCtorEq, Int.reduceBEq, Int.reduceBNe, Int.reduceLT, Int.reduceLE, Int.reduceGT, Int.reduceGE, Int.reduceNeg, Int.reduceAdd, Int.reduceSub, Nat.reduceMul, Nat.reduceLT, Int.reduceToNat, t1, t2, t3, t6, t7, t8, z1, z2, z3, z4, afill]
          refine (hO.new _).step (m := 1) (new := [aint (rlT (fr) by_ ks[i]).form, aint (rlT (fr) by_ ks[i]).n, abl (rlT (fr) by_ ks[i]).hid, .v (.string (rlT (fr) by_ ks[i]).name), zl, zk]) (asrc_slc (c := [aint (rlT (fr) by_ ks[i]).form, aint (rlT (fr) by_ ks[i]).n, abl (rlT (fr) by_ ks[i]).hid, .v (.string (rlT (fr) by_ ks[i]).name), zl, zk]) (by rw [new_get]; exact if_pos rfl) (by simp)) z8 (by omega) (by omega) ⟨by omega, by omega⟩ rfl (by rw [new_next]; omega) fun x' G' r6 r7 r8 => ?_
          rw [new_next] at r7
          have hGo : ∀ b, b < H.next + 2 → G'.get b = H2.get b := fun b hb => by
            rw [r8 b (by rw [new_next]; omega) (hO.notlow (by omega)), new_get, if_neg (by omega)]
          simp -implicitDefEqProofs only [go_sem, Nat.reduceEqDiff, Nat.reduceAdd, Nat.reduceLeDiff, ↓reduceIte, reduceCtorEq, Int.reduceBEq, Int.reduceBNe, Int.reduceLT, Int.reduceLE, Int.reduceGT, Int.reduceGE, Int.reduceNeg, Int.reduceAdd, Int.reduceSub, Nat.reduceMul, Nat.reduceLT, Int.reduceToNat, t8, w3]
          refine ⟨t1, t2, t3, t6, by simp, by omega, ⟨by have := hE.1; omega, fun b hb => by rw [hGo b (by omega)]; exact hE.2 b hb⟩, (hGo _ (by omega)).trans hg, (hGo _ (by omega)).trans hg1, _, _, rfl, r6, ?_⟩
          rw [rlK_take fr by_ f ks 0 i hi, Nat.zero_add, hun]
          exact hX.snoc hxc
      · have hun : underF f i fr = fr := by simp [underF, hu]
        simp -implicitDefEqProofs only [go_sem, Nat.reduceEqDiff, Nat.reduceAdd, Nat.reduceLeDiff, ↓reduceIte, reduceCtorEq, Int.reduceBEq, Int.reduceBNe, Int.reduceLT, Int.reduceLE, Int.reduceGT, Int.reduceGE, Int.reduceNeg, Int.reduceAdd, Int.reduceSub, Nat.reduceMul, Nat.reduceLT, Int.reduceToNat, t1, t2, t3, t6, t7, t8, hg, kal, hltI, bne' hu]
        simp -implicitDefEqProofs only [go_sem, Nat.reduceEqDiff, Nat.reduceAdd, Nat.reduceLeDiff, ↓reduceIte, reduceCtorEq, Int.reduceBEq, Int.reduceBNe, Int.reduceLT, Int.reduceLE, Int.reduceGT, Int.reduceGE, Int.reduceNeg, Int.reduceAdd, Int.reduceSub, Nat.reduceMul, Nat.reduceLT, Int.reduceToNat, t1, t2, t3, t6, t7, t8, hg, hix, hle, hld, q1, q2, q3, q4, w4]
        refine i_callA (fs := []) (cs := []) (fid := 79) ?_ ?_ (ih ks[i] hkm (a5.mem _ hkm) (hv2.mem _ hkm) _ hkP (fr) (by omega) (by omega) _) ?_
        · rfl
        · simp -implicitDefEqProofs only [go_sem, Nat.reduceEqDiff, Nat.reduceAdd, Nat.reduceLeDiff, ↓reduceIte, reduceCtorEq, Int.reduceBEq, Int.reduceBNe, Int.reduceLT, Int.reduceLE, Int.reduceGT, Int.reduceGE, Int.reduceNeg, Int.reduceAdd, Int.reduceSub, Nat.reduceMul, Nat.reduceLT, Int.reduceToNat, t2]
        rintro x H3 ⟨⟨xc, rfl, hxc⟩, hHH⟩
        have hHH := hHH.symm
        subst hHH
        obtain ⟨zl, zk, hx6, z1, z2, z3, z4, z5, z6', z7, z8⟩ := hxc.six
        subst hx6
        simp -implicitDefEqProofs only [go_sem, Nat.reduceEqDiff, Nat.reduceAdd, Nat.reduceLeDiff, ↓reduceIte, reduceCtorEq, Int.reduceBEq, Int.reduceBNe, Int.reduceLT, Int.reduceLE, Int.reduceGT, Int.reduceGE, Int.reduceNeg, Int.reduceAdd, Int.reduceSub, Nat.reduceMul, Nat.reduceLT, Int.reduceToNat, t1, t2, t3, t6, t7, t8, z1, z2, z3, z4, afill]
        refine (hO.new _).step (m := 1) (new := [aint (rlT (fr) by_ ks[i]).form, aint (rlT (fr) by_ ks[i]).n, abl (rlT (fr) by_ ks[i]).hid, .v (.string (rlT (fr) by_ ks[i]).name), zl, zk]) (asrc_slc (c := [aint (rlT (fr) by_ ks[i]).form, aint (rlT (fr) by_ ks[i]).n, abl (rlT (fr) by_ ks[i]).hid, .v (.string (rlT (fr) by_ ks[i]).name), zl, zk]) (by rw [new_get]; exact if_pos rfl) (by simp)) z8 (by omega) (by omega) ⟨by omega, by omega⟩ rfl (by rw [new_next]; omega) fun x' G' r6 r7 r8 => ?_
        rw [new_next] at r7
        have hGo : ∀ b, b < H.next + 2 → G'.get b = H2.get b := fun b hb => by
          rw [r8 b (by rw [new_next]; omega) (hO.notlow (by omega)), new_get, if_neg (by omega)]
        simp -implicitDefEqProofs only [go_sem, Nat.reduceEqDiff, Nat.reduceAdd, Nat.reduceLeDiff, ↓reduceIte, reduceCtorEq, Int.reduceBEq, Int.reduceBNe, Int.reduceLT, Int.reduceLE, Int.reduceGT, Int.reduceGE, Int.reduceNeg, Int.reduceAdd, Int.reduceSub, Nat.reduceMul, Nat.reduceLT, Int.reduceToNat, t8, w3]
        refine ⟨t1, t2, t3, t6, by simp, by omega, ⟨by have := hE.1; omega, fun b hb => by rw [hGo b (by omega)]; exact hE.2 b hb⟩, (hGo _ (by omega)).trans hg, (hGo _ (by omega)).trans hg1, _, _, rfl, r6, ?_⟩
        rw [rlK_take fr by_ f ks 0 i hi, Nat.zero_add, hun]
        exact hX.snoc hxc
    · rintro ⟨tm, H2⟩ ⟨t1, t2, t3, t6, t8, hnx, hE, hg, hg1, x, l, t7, hO, hX⟩
      simp only at t1 t2 t3 t6 t7 t8 hnx hE hg hg1 hO
      rw [List.take_length] at hX
      simp -implicitDefEqProofs only [go_sem, Nat.reduceEqDiff, Nat.reduceAdd, Nat.reduceLeDiff, ↓reduceIte, reduceCtorEq, Int.reduceBEq, Int.reduceBNe, Int.reduceLT, Int.reduceLE, Int.reduceGT, Int.reduceGE, Int.reduceNeg, Int.reduceAdd, Int.reduceSub, Nat.reduceMul, Nat.reduceLT, Int.reduceToNat, t1, t2, t3, t6, t7, t8, hg, hg1, kal, Int.lt_irrefl, hO.one, hO.cells, p1, p2, e1, e2]
      refine ⟨(hE.set (by omega) _).set (by omega) _, ?_⟩
      have hO2 := (hO.set (b' := H.next) (hO.notlow (by omega)) (.cells [aint f, aint n, abl hid, .v (.string s), lx, x])).set (b' := H.next + 1) (hO.notlow (by omega)) (.cells [aint f, aint n, abl hid, .v (.string s), lx, x])
      rw [← rlK_len fr by_ f ks 0] at hO2
      exact frz_app hlx hO2 (by omega) hX
  · simp -implicitDefEqProofs only [c79, go_sem, Nat.reduceEqDiff, Nat.reduceAdd, Nat.reduceLeDiff, ↓reduceIte, reduceCtorEq, Int.reduceBEq, Int.reduceBNe, Int.reduceLT, Int.reduceLE, Int.reduceGT, Int.reduceGE, Int.reduceNeg, Int.reduceAdd, Int.reduceSub, Nat.reduceMul, Nat.reduceLT, Int.reduceToNat, p1, p2, p3, p4, e1, e2, bne' hf1, kal, hkb]
    refine swp_range ks.length (fun i st => st.tm 1 = aint fr ∧ st.tm 2 = aint by_ ∧ st.tm 3 = .ptr H.next 0 ∧ st.tm 6 = .ptr (H.next + 1) 0 ∧ st.tm 8 = aint i ∧ H.next + 2 ≤ st.heap.next ∧ Ext H st.heap ∧
      st.heap.get H.next = some (.cells [aint f, aint n, abl hid, .v (.string s), lx, kx]) ∧ st.heap.get (H.next + 1) = some (.cells z6) ∧ ∃ x l, st.tm 7 = x ∧ OutS st.heap (H.next + 2) 6 i l x ∧ KsX (rlK fr by_ f 0 (ks.take i)) l) ?_ ?_ ?_
    · refine ⟨rfl, rfl, rfl, rfl, rfl, Nat.le_refl _, ((Ext.refl H).new _).new _, ?_, ?_, _, [], rfl, .nil, rfl⟩
      · simp -implicitDefEqProofs only [go_sem, Nat.reduceEqDiff, Nat.reduceAdd, Nat.reduceLeDiff, ↓reduceIte, reduceCtorEq, Int.reduceBEq, Int.reduceBNe, Int.reduceLT, Int.reduceLE, Int.reduceGT, Int.reduceGE, Int.reduceNeg, Int.reduceAdd, Int.reduceSub, Nat.reduceMul, Nat.reduceLT, Int.reduceToNat, e1, e2]
      · simp -implicitDefEqProofs only [go_sem, Nat.reduceEqDiff, Nat.reduceAdd, Nat.reduceLeDiff, ↓reduceIte, reduceCtorEq, Int.reduceBEq, Int.reduceBNe, Int.reduceLT, Int.reduceLE, Int.reduceGT, Int.reduceGE, Int.reduceNeg, Int.reduceAdd, Int.reduceSub, Nat.reduceMul, Nat.reduceLT, Int.reduceToNat]
    · rintro i ⟨tm, H2⟩ hi ⟨t1, t2, t3, t6, t8, hnx, hE, hg, hg1, x, l, t7, hO, hX⟩
      simp only at t1 t2 t3 t6 t7 t8 hnx hE hg hg1 hO
      have hltI : (i : Int) < (ks.length : Int) := by omega
      have hix := hk1.aix 6 hi
      obtain ⟨kc, hkc, hle, hld⟩ := hk2.load (List.getElem?_eq_getElem hi)
      have hkm := List.getElem_mem hi
      have hub := underF_bound f i fr
      have hh := htK_mem hkm
      have hkP : TmP ks[i] kc := ⟨hkc, fun y hy => hcso y (by rw [← hld] at hy; exact List.mem_of_mem_drop (List.mem_of_mem_take hy))⟩
      obtain ⟨ux, vx, hk6, q1, q2, q3, q4, q5, q6, q7, q8⟩ := hkP.six
      have w3 : IntKind.i64.wrap ((i : Int) + 1) = (i : Int) + 1 := i64_ok _ (by omega)
      have w4 : IntKind.i64.wrap (fr + 1) = fr + 1 := i64_ok _ (by omega)
      by_cases hu : (i : Int) = 1
      · have hib : ((i : Int) == 1) = true := by rw [hu]; rfl
        simp -implicitDefEqProofs only [go_sem, Nat.reduceEqDiff, Nat.reduceAdd, Nat.reduceLeDiff, ↓reduceIte, reduceCtorEq, Int.reduceBEq, Int.reduceBNe, Int.reduceLT, Int.reduceLE, Int.reduceGT, Int.reduceGE, Int.reduceNeg, Int.reduceAdd, Int.reduceSub, Nat.reduceMul, Nat.reduceLT, Int.reduceToNat, t1, t2, t3, t6, t7, t8, hg, kal, hltI, hib]
        refine i_callA (fs := []) (cs := []) (fid := 127) ?_ ?_ (binds2_ok f _) ?_
        · rfl
        · simp -implicitDefEqProofs only [go_sem, Nat.reduceEqDiff, Nat.reduceAdd, Nat.reduceLeDiff, ↓reduceIte, reduceCtorEq, Int.reduceBEq, Int.reduceBNe, Int.reduceLT, Int.reduceLE, Int.reduceGT, Int.reduceGE, Int.reduceNeg, Int.reduceAdd, Int.reduceSub, Nat.reduceMul, Nat.reduceLT, Int.reduceToNat]
        rintro x H3 ⟨rfl, hHH⟩
        have hHH := hHH.symm
        subst hHH
        cases hbf : bindsF f with
        | true =>
          have hun : underF f i fr = fr + 1 := by simp [underF, hu, hbf]
          simp -implicitDefEqProofs only [go_sem, Nat.reduceEqDiff, Nat.reduceAdd, Nat.reduceLeDiff, ↓reduceIte, reduceCtorEq, Int.reduceBEq, Int.reduceBNe, Int.reduceLT, Int.reduceLE, Int.reduceGT, Int.reduceGE, Int.reduceNeg, Int.reduceAdd, Int.reduceSub, Nat.reduceMul, Nat.reduceLT, Int.reduceToNat, t1, t2, t3, t6, t7, t8, hg, hix, hle, hld, q1, q2, q3, q4, w4]
          refine i_callA (fs := []) (cs := []) (fid := 79) ?_ ?_ (ih ks[i] hkm (a5.mem _ hkm) (hv2.mem _ hkm) _ hkP (fr + 1) (by omega) (by omega) _) ?_
          · rfl
          · simp -implicitDefEqProofs only [go_sem, Nat.reduceEqDiff, Nat.reduceAdd, Nat.reduceLeDiff, ↓reduceIte, reduceCtorEq, Int.reduceBEq, Int.reduceBNe, Int.reduceLT, Int.reduceLE, Int.reduceGT, Int.reduceGE, Int.reduceNeg, Int.reduceAdd, Int.reduceSub, Nat.reduceMul, Nat.reduceLT, Int.reduceToNat, t2]
          rintro x H3 ⟨⟨xc, rfl, hxc⟩, hHH⟩
          have hHH := hHH.symm
          subst hHH
          obtain ⟨zl, zk, hx6, z1, z2, z3, z4, z5, z6', z7, z8⟩ := hxc.six
          subst hx6
          simp -implicitDefEqProofs only [go_sem, Nat.reduceEqDiff, Nat.reduceAdd, Nat.reduceLeDiff, ↓reduceIte, reduceCtorEq, Int.reduceBEq, Int.reduceBNe, Int.reduceLT, Int.reduceLE, Int.reduceGT, Int.reduceGE, Int.reduceNeg, Int.reduceAdd, Int.reduceSub, Nat.reduceMul, Nat.reduceLT, Int.reduceToNat, t1, t2, t3, t6, t7, t8, z1, z2, z3, z4, afill]
          refine (hO.new _).step (m := 1) (new := [aint (rlT (fr + 1) by_ ks[i]).form, aint (rlT (fr + 1) by_ ks[i]).n, abl (rlT (fr + 1) by_ ks[i]).hid, .v (.string (rlT (fr + 1) by_ ks[i]).name), zl, zk]) (asrc_slc (c := [aint (rlT (fr + 1) by_ ks[i]).form, aint (rlT (fr + 1) by_ ks[i]).n, abl (rlT (fr + 1) by_ ks[i]).hid, .v (.string (rlT (fr + 1) by_ ks[i]).name), zl, zk]) (by rw [new_get]; exact if_pos rfl) (by simp)) z8 (by omega) (by omega) ⟨by omega, by omega⟩ rfl (by rw [new_next]; omega) fun x' G' r6 r7 r8 => ?_
          rw [new_next] at r7
          have hGo : ∀ b, b < H.next + 2 → G'.get b = H2.get b := fun b hb => by
            rw [r8 b (by rw [new_next]; omega) (hO.notlow (by omega)), new_get, if_neg (by omega)]
          simp -implicitDefEqProofs only [go_sem, Nat.reduceEqDiff, Nat.reduceAdd, Nat.reduceLeDiff, ↓reduceIte, reduceCtorEq, Int.reduceBEq, Int.reduceBNe, Int.reduceLT, Int.reduceLE, Int.reduceGT, Int.reduceGE, Int.reduceNeg, Int.reduceAdd, Int.reduceSub, Nat.reduceMul, Nat.reduceLT, Int.reduceToNat, t8, w3]
          refine ⟨t1, t2, t3, t6, by simp, by omega, ⟨by have := hE.1; omega, fun b hb => by rw [hGo b (by omega)]; exact hE.2 b hb⟩, (hGo _ (by omega)).trans hg, (hGo _ (by omega)).trans hg1, _, _, rfl, r6, ?_⟩
          rw [rlK_take fr by_ f ks 0 i hi, Nat.zero_add, hun]
          exact hX.snoc hxc
        | false =>
          have hun : underF f i fr = fr := by simp [underF, hbf]
          simp -implicitDefEqProofs only [go_sem, Nat.reduceEqDiff, Nat.reduceAdd, Nat.reduceLeDiff, ↓reduceIte, reduceCtorEq, Int.reduceBEq, Int.reduceBNe, Int.reduceLT, Int.reduceLE, Int.reduceGT, Int.reduceGE, Int.reduceNeg, Int.reduceAdd, Int.reduceSub, Nat.reduceMul, Nat.reduceLT, Int.reduceToNat, t1, t2, t3, t6, t7, t8, hg, hix, hle, hld, q1, q2, q3, q4, w4]
          refine i_callA (fs := []) (cs := []) (fid := 79) ?_ ?_ (ih ks[i] hkm (a5.mem _ hkm) (hv2.mem _ hkm) _ hkP (fr) (by omega) (by omega) _) ?_
          · rfl
          · simp -implicitDefEqProofs only [go_sem, Nat.reduceEqDiff, Nat.reduceAdd, Nat.reduceLeDiff, ↓reduceIte, reduceCtorEq, Int.reduceBEq, Int.reduceBNe, Int.reduceLT, Int.reduceLE, Int.reduceGT, Int.reduceGE, Int.reduceNeg, Int.reduceAdd, Int.reduceSub, Nat.reduceMul, Nat.reduceLT, Int.reduceToNat, t2]
          rintro x H3 ⟨⟨xc, rfl, hxc⟩, hHH⟩
          have hHH := hHH.symm
          subst hHH
          obtain ⟨zl, zk, hx6, z1, z2, z3, z4, z5, z6', z7, z8⟩ := hxc.six
          subst hx6
          simp -implicitDefEqProofs only [go_sem, Nat.reduceEqDiff, Nat.reduceAdd, Nat.reduceLeDiff, ↓reduceIte, reduceCtorEq, Int.reduceBEq, Int.reduceBNe, Int.reduceLT, Int.reduceLE, Int.reduceGT, Int.reduceGE, Int.reduceNeg, Int.reduceAdd, Int.reduceSub, Nat.reduceMul, Nat.reduceLT, Int.reduceToNat, t1, t2, t3, t6, t7, t8, z1, z2, z3, z4, afill]
          refine (hO.new _).step (m := 1) (new := [aint (rlT (fr) by_ ks[i]).form, aint (rlT (fr) by_ ks[i]).n, abl (rlT (fr) by_ ks[i]).hid, .v (.string (rlT (fr) by_ ks[i]).name), zl, zk]) (asrc_slc (c := [aint (rlT (fr) by_ ks[i]).form, aint (rlT (fr) by_ ks[i]).n, abl (rlT (fr) by_ ks[i]).hid, .v (.string (rlT (fr) by_ ks[i]).name), zl, zk]) (by rw [new_get]; exact if_pos rfl) (by simp)) z8 (by omega) (by omega) ⟨by omega, by omega⟩ rfl (by rw [new_next]; omega) fun x' G' r6 r7 r8 => ?_
          rw [new_next] at r7
          have hGo : ∀ b, b < H.next + 2 → G'.get b = H2.get b := fun b hb => by
            rw [r8 b (by rw [new_next]; omega) (hO.notlow (by omega)), new_get, if_neg (by omega)]
          simp -implicitDefEqProofs only [go_sem, Nat.reduceEqDiff, Nat.reduceAdd, Nat.reduceLeDiff, ↓reduceIte, reduceCtorEq, Int.reduceBEq, Int.reduceBNe, Int.reduceLT, Int.reduceLE, Int.reduceGT, Int.reduceGE, Int.reduceNeg, Int.reduceAdd, Int.reduceSub, Nat.reduceMul, Nat.reduceLT, Int.reduceToNat, t8, w3]
          refine ⟨t1, t2, t3, t6, by simp, by omega, ⟨by have := hE.1; omega, fun b hb => by rw [hGo b (by omega)]; exact hE.2 b hb⟩, (hGo _ (by omega)).trans hg, (hGo _ (by omega)).trans hg1, _, _, rfl, r6, ?_⟩
          rw [rlK_take fr by_ f ks 0 i hi, Nat.zero_add, hun]
          exact hX.snoc hxc
      · have hun : underF f i fr = fr := by simp [underF, hu]
        simp -implicitDefEqProofs only [go_sem, Nat.reduceEqDiff, Nat.reduceAdd, Nat.reduceLeDiff, ↓reduceIte, reduceCtorEq, Int.reduceBEq, Int.reduceBNe, Int.reduceLT, Int.reduceLE, Int.reduceGT, Int.reduceGE, Int.reduceNeg, Int.reduceAdd, Int.reduceSub, Nat.reduceMul, Nat.reduceLT, Int.reduceToNat, t1, t2, t3, t6, t7, t8, hg, kal, hltI, bne' hu]
        simp -implicitDefEqProofs only [go_sem, Nat.reduceEqDiff, Nat.reduceAdd, Nat.reduceLeDiff, ↓reduceIte, reduceCtorEq, Int.reduceBEq, Int.reduceBNe, Int.reduceLT, Int.reduceLE, Int.reduceGT, Int.reduceGE, Int.reduceNeg, Int.reduceAdd, Int.reduceSub, Nat.reduceMul, Nat.reduceLT, Int.reduceToNat, t1, t2, t3, t6, t7, t8, hg, hix, hle, hld, q1, q2, q3, q4, w4]
        refine i_callA (fs := []) (cs := []) (fid := 79) ?_ ?_ (ih ks[i] hkm (a5.mem _ hkm) (hv2.mem _ hkm) _ hkP (fr) (by omega) (by omega) _) ?_
        · rfl
        · simp -implicitDefEqProofs only [go_sem, Nat.reduceEqDiff, Nat.reduceAdd, Nat.reduceLeDiff, ↓reduceIte, reduceCtorEq, Int.reduceBEq, Int.reduceBNe, Int.reduceLT, Int.reduceLE, Int.reduceGT, Int.reduceGE, Int.reduceNeg, Int.reduceAdd, Int.reduceSub, Nat.reduceMul, Nat.reduceLT, Int.reduceToNat, t2]
        rintro x H3 ⟨⟨xc, rfl, hxc⟩, hHH⟩
        have hHH := hHH.symm
        subst hHH
        obtain ⟨zl, zk, hx6, z1, z2, z3, z4, z5, z6', z7, z8⟩ := hxc.six
        subst hx6
        simp -implicitDefEqProofs only [go_sem, Nat.reduceEqDiff, Nat.reduceAdd, Nat.reduceLeDiff, ↓reduceIte, reduceCtorEq, Int.reduceBEq, Int.reduceBNe, Int.reduceLT, Int.reduceLE, Int.reduceGT, Int.reduceGE, Int.reduceNeg, Int.reduceAdd, Int.reduceSub, Nat.reduceMul, Nat.reduceLT, Int.reduceToNat, t1, t2, t3, t6, t7, t8, z1, z2, z3, z4, afill]
        refine (hO.new _).step (m := 1) (new := [aint (rlT (fr) by_ ks[i]).form, aint (rlT (fr) by_ ks[i]).n, abl (rlT (fr) by_ ks[i]).hid, .v (.string (rlT (fr) by_ ks[i]).name), zl, zk]) (asrc_slc (c := [aint (rlT (fr) by_ ks[i]).form, aint (rlT (fr) by_ ks[i]).n, abl (rlT (fr) by_ ks[i]).hid, .v (.string (rlT (fr) by_ ks[i]).name), zl, zk]) (by rw [new_get]; exact if_pos rfl) (by simp)) z8 (by omega) (by omega) ⟨by omega, by omega⟩ rfl (by rw [new_next]; omega) fun x' G' r6 r7 r8 => ?_
        rw [new_next] at r7
        have hGo : ∀ b, b < H.next + 2 → G'.get b = H2.get b := fun b hb => by
          rw [r8 b (by rw [new_next]; omega) (hO.notlow (by omega)), new_get, if_neg (by omega)]
        simp -implicitDefEqProofs only [go_sem, Nat.reduceEqDiff, Nat.reduceAdd, Nat.reduceLeDiff, ↓reduceIte, reduceCtorEq, Int.reduceBEq, Int.reduceBNe, Int.reduceLT, Int.reduceLE, Int.reduceGT, Int.reduceGE, Int.reduceNeg, Int.reduceAdd, Int.reduceSub, Nat.reduceMul, Nat.reduceLT, Int.reduceToNat, t8, w3]
        refine ⟨t1, t2, t3, t6, by simp, by omega, ⟨by have := hE.1; omega, fun b hb => by rw [hGo b (by omega)]; exact hE.2 b hb⟩, (hGo _ (by omega)).trans hg, (hGo _ (by omega)).trans hg1, _, _, rfl, r6, ?_⟩
        rw [rlK_take fr by_ f ks 0 i hi, Nat.zero_add, hun]
        exact hX.snoc hxc
    · rintro ⟨tm, H2⟩ ⟨t1, t2, t3, t6, t8, hnx, hE, hg, hg1, x, l, t7, hO, hX⟩
      simp only at t1 t2 t3 t6 t7 t8 hnx hE hg hg1 hO
      rw [List.take_length] at hX
      simp -implicitDefEqProofs only [go_sem, Nat.reduceEqDiff, Nat.reduceAdd, Nat.reduceLeDiff, ↓reduceIte, reduceCtorEq, Int.reduceBEq, Int.reduceBNe, Int.reduceLT, Int.reduceLE, Int.reduceGT, Int.reduceGE, Int.reduceNeg, Int.reduceAdd, Int.reduceSub, Nat.reduceMul, Nat.reduceLT, Int.reduceToNat, t1, t2, t3, t6, t7, t8, hg, hg1, kal, Int.lt_irrefl, hO.one, hO.cells, p1, p2, e1, e2]
      refine ⟨(hE.set (by omega) _).set (by omega) _, ?_⟩
      have hO2 := (hO.set (b' := H.next) (hO.notlow (by omega)) (.cells [aint f, aint n, abl hid, .v (.string s), lx, x])).set (b' := H.next + 1) (hO.notlow (by omega)) (.cells [aint f, aint n, abl hid, .v (.string s), lx, x])
      rw [← rlK_len fr by_ f ks 0] at hO2
      exact frz_app hlx hO2 (by omega) hX
end Go.Proofs.Ytooaiddfokbffaa.E

/- Terms copied as the reference does it. Conditions: none. -/
set_option linter.unusedVariables false
set_option linter.unusedSimpArgs false
namespace Go.Proofs.Ytooaiddfokbffaa.E
open Go Go.Proofs
attribute [local go_sem] s_seq s_ops s_draw s_block s_skip s_ret s_exit i_nil i_cons i_run i_runG s_condQ c_true c_false aop ev_t ev_c updO_at updO_no upd_at t_normal t_ret t_exit b_normal b_ret b_exit a_some ac_v ac_agg ac_ptr ac_slc ac_ro ac_rop ac_fn new_next set_next argTm_zero argTm_succ argTm_nil ab_bool ab_uv beq_self_eq_true Option.some_beq_some Bool.not_not beq_iff_eq decide_true decide_false Bool.not_true Bool.not_false afld aload astore apack alen_str alen_ro alen_slc alen_nil new_get set_get ite_true ite_false Option.map_some Option.bind_some ibin isShift Nat.add_zero Nat.zero_add List.length_cons List.length_nil List.drop_zero List.drop_succ_cons List.take_succ_cons List.take_zero if_true if_false setL List.set_cons_zero List.set_cons_succ List.all_cons List.all_nil one_int one_bool one_str one_nil one_ptr one_slc one_ro one_rop one_fn Bool.and_self Bool.and_true true_and and_true and_self Bool.false_eq_true post_ret post_normal resAll resOne packR Option.some.injEq exists_eq_left' List.map_cons List.map_nil List.nil_append List.append_nil List.cons_append d_nil d_cons k_nil k_cons g_op g_same g_new avBlock forall_eq' List.getElem?_cons_succ List.getElem?_cons_zero List.getElem?_nil okind gOk bne false_imp_iff forall_const imp_self implies_true true_imp_iff i_callG

/-- An appended row lies in a new block. -/
theorem OutS.stepN {H : AHeap} {base es n : Nat} {l : List AV} {x : AV} {K : ASt → Prop} {tm : Nat → AV} {d : Option Nat} {bytes m : Nat} {y : AV} {new : List AV} (hO : OutS H base es n l x) (hsrc : asrc H es y = some (m, new)) (hone : new.all AV.one = true) (hm : 0 < m) (hes : 0 < es)
    (hlim : (n + m) * bytes ≤ 140737488355328 ∧ n + m ≤ 9223372036854775807) (hnl : new.length = m * es)
    (k : ∀ x' H', OutS H' H.next es (n + m) (l ++ new) x' → H.next ≤ H'.next → (∀ b, b < H.next → (∀ off es' n' lo ex, x ≠ .slc b off es' n' lo ex) → H'.get b = H.get b) → K ⟨updO tm d x', H'⟩) :
    after K tm d (aappend H es bytes x y) := by
  unfold aappend
  rw [hsrc]
  simp only
  rw [if_neg (by rw [hone]; simp; omega)]
  rcases hO with ⟨rfl, rfl, rfl⟩ | ⟨b, h1, h2, rfl, h3, h4⟩
  · simp only
    rw [if_neg (by omega), if_pos (by rw [Nat.zero_add] at hlim; exact hlim)]
    simp only [after]
    refine k _ _ (.inr ⟨H.next, Nat.le_refl _, by rw [new_next]; omega, by rw [Nat.zero_add], by rw [new_get, if_pos rfl]; simp, by rw [Nat.zero_add]; simpa using hnl⟩) (Nat.le_succ _) fun b hb _ => ?_
    rw [new_get, if_neg (by omega)]
  · simp only [h3]
    rw [if_pos ⟨trivial, by omega⟩, if_neg (by omega), if_neg (by omega), if_pos hlim, if_neg (by simp), if_pos ⟨trivial, h4⟩]
    simp only [after]
    refine k _ _ (.inr ⟨H.next, Nat.le_refl _, by rw [new_next]; exact Nat.lt_succ_self _, rfl, by rw [new_get]; exact if_pos rfl, by rw [List.length_append, h4, hnl, Nat.add_mul]⟩) (Nat.le_succ _) fun b' hb hne => ?_
    have : b' ≠ b := fun hh => hne 0 es n n false (by rw [hh])
    rw [new_get, if_neg (show ¬ b' = (H.kill b).next from (show ¬ b' = H.next by omega)), kill_get, if_neg this]

/-- A level's row in an own block of a range. -/
def VO (H : AHeap) (lo hi : Nat) (vars : List (Int × Int)) (y : AV) : Prop := (vars.length = 0 ∧ y = nils) ∨ ∃ b, lo ≤ b ∧ b < hi ∧ y = .slc b 0 2 vars.length vars.length false ∧ H.get b = some (.cells (varsC vars))
def LvsO (H : AHeap) (lo hi : Nat) : List Lv → List AV → Prop
  | [], l => l = []
  | v :: r, l => ∃ y l', l = aint v.n :: y :: l' ∧ VO H lo hi v.vars y ∧ LvsO H lo hi r l'
def LvO (H : AHeap) (lo hi : Nat) (lv : List Lv) (x : AV) : Prop := (lv = [] ∧ x = nils) ∨ ∃ b l, lo ≤ b ∧ b < hi ∧ x = .slc b 0 2 lv.length lv.length false ∧ H.get b = some (.cells l) ∧ LvsO H lo hi lv l

theorem VO.frame {H G : AHeap} {lo hi lo' hi' : Nat} {v : List (Int × Int)} {y : AV} (h : VO H lo hi v y) (h1 : lo' ≤ lo) (h2 : hi ≤ hi') (hf : ∀ b, lo ≤ b → b < hi → G.get b = H.get b) : VO G lo' hi' v y := by
  rcases h with h | ⟨b, g1, g2, g3, g4⟩
  · exact .inl h
  · exact .inr ⟨b, by omega, by omega, g3, by rw [hf b g1 g2]; exact g4⟩
theorem LvsO.frame {H G : AHeap} {lo hi lo' hi' : Nat} (h1 : lo' ≤ lo) (h2 : hi ≤ hi') (hf : ∀ b, lo ≤ b → b < hi → G.get b = H.get b) : ∀ {lv : List Lv} {l : List AV}, LvsO H lo hi lv l → LvsO G lo' hi' lv l
  | [], l, h => h
  | v :: r, l, h => by
    simp only [LvsO] at h ⊢
    obtain ⟨y, l', rfl, q1, q2⟩ := h
    exact ⟨y, l', rfl, q1.frame h1 h2 hf, q2.frame h1 h2 hf⟩
theorem LvO.frame {H G : AHeap} {lo hi : Nat} {lv : List Lv} {x : AV} (h : LvO H lo hi lv x) (hf : ∀ b, lo ≤ b → b < hi → G.get b = H.get b) : LvO G lo hi lv x := by
  rcases h with h | ⟨b, l, g1, g2, g3, g4, g5⟩
  · exact .inl h
  · exact .inr ⟨b, l, g1, g2, g3, by rw [hf b g1 g2]; exact g4, g5.frame (Nat.le_refl _) (Nat.le_refl _) hf⟩
theorem LvO.one {H : AHeap} {lo hi : Nat} {lv : List Lv} {x : AV} (h : LvO H lo hi lv x) : x.one = true := by
  rcases h with ⟨_, rfl⟩ | ⟨b, l, _, _, rfl, _⟩ <;> rfl
theorem LvO.cells {H : AHeap} {lo hi : Nat} {lv : List Lv} {x : AV} (h : LvO H lo hi lv x) : x.acells = [x] := by
  rcases h with ⟨_, rfl⟩ | ⟨b, l, _, _, rfl, _⟩ <;> rfl
theorem LvsO.snoc {H : AHeap} {lo hi : Nat} {v : Lv} {y : AV} (hy : VO H lo hi v.vars y) : ∀ {lv : List Lv} {l : List AV}, LvsO H lo hi lv l → LvsO H lo hi (lv ++ [v]) (l ++ [aint v.n, y])
  | [], l, h => by simp only [LvsO] at h; subst h; exact ⟨y, [], rfl, hy, rfl⟩
  | v0 :: r, l, h => by
    simp only [LvsO] at h
    obtain ⟨z, l', rfl, q1, q2⟩ := h
    exact ⟨z, l' ++ [aint v.n, y], rfl, q1, LvsO.snoc hy q2⟩
theorem LvsO.len {H : AHeap} {lo hi : Nat} : ∀ {lv : List Lv} {l : List AV}, LvsO H lo hi lv l → l.length = lv.length * 2
  | [], l, h => by simp only [LvsO] at h; subst h; rfl
  | v0 :: r, l, h => by
    simp only [LvsO] at h
    obtain ⟨z, l', rfl, q1, q2⟩ := h
    have := q2.len
    simp; omega

theorem VO.frz {H : AHeap} {lo hi N : Nat} {v : List (Int × Int)} {y : AV} (h : VO H lo hi v y) (hN : N ≤ lo) : ∃ z, FrzN N H y z ∧ SlV v z := by
  rcases h with ⟨h0, rfl⟩ | ⟨b, h1, h2, rfl, h3⟩
  · exact ⟨nils, .keep _ (.v _), SlV.of (.inl ⟨h0, rfl⟩)⟩
  · refine ⟨.ro v.length v.length false (varsC v), .slc b 0 2 _ _ _ _ _ h3 (by omega) (by omega) (fun i x y hx hy => ?_), SlV.of (.inr ⟨_, _, rfl, Nat.le_refl _⟩)⟩
    rw [Nat.zero_add] at hx
    rw [hx] at hy
    injection hy with hy
    subst hy
    exact .keep _ (varsC_old _ _ _ (List.mem_of_getElem? hx))
theorem LvsO.frz {H : AHeap} {lo hi N : Nat} (hN : N ≤ lo) : ∀ {lv : List Lv} {l : List AV}, LvsO H lo hi lv l → ∃ l', l'.length = l.length ∧ (∀ (i : Nat) (x y : AV), l[i]? = some x → l'[i]? = some y → FrzN N H x y) ∧ LvsX lv l'
  | [], l, h => by simp only [LvsO] at h; subst h; exact ⟨[], rfl, fun i x y hx => by simp at hx, rfl⟩
  | v :: r, l, h => by
    simp only [LvsO] at h
    obtain ⟨y, l', rfl, q1, q2⟩ := h
    obtain ⟨z, z1, z2⟩ := q1.frz hN
    obtain ⟨m, m1, m2, m3⟩ := q2.frz hN
    refine ⟨aint v.n :: z :: m, by simp [m1], fun i x y hx hy => ?_, z, m, rfl, z2, m3⟩
    match i, hx, hy with
    | 0, hx, hy => simp at hx hy; subst hx hy; exact .keep _ (.v _)
    | 1, hx, hy => simp at hx hy; subst hx hy; exact z1
    | i + 2, hx, hy => exact m2 i x y (by simpa using hx) (by simpa using hy)
theorem LvO.frz {H : AHeap} {lo hi N : Nat} {lv : List Lv} {x : AV} (h : LvO H lo hi lv x) (hN : N ≤ lo) : ∃ z, FrzN N H x z ∧ SlL lv z := by
  rcases h with ⟨rfl, rfl⟩ | ⟨b, l, h1, h2, rfl, h3, h4⟩
  · exact ⟨nils, .keep _ (.v _), sll_nil⟩
  · obtain ⟨l', g1, g2, g3⟩ := h4.frz hN
    refine ⟨.ro lv.length lv.length false l', .slc b 0 2 _ _ _ _ _ h3 (by omega) (by omega) (fun i x y hx hy => ?_), SlL.of g3 (.inr ⟨_, _, rfl, Nat.le_refl _⟩)⟩
    rw [Nat.zero_add] at hx
    exact g2 i x y hx hy
theorem OutS.high {H : AHeap} {base es n : Nat} {l : List AV} {x : AV} (h : OutS H base es n l x) {b : Nat} (hb : H.next ≤ b) : ∀ off es' n' lo ex, x ≠ .slc b off es' n' lo ex := by
  intro off es' n' lo ex hx
  rcases h with ⟨_, _, rfl⟩ | ⟨b0, g1, g2, rfl, g3⟩
  · cases hx
  · injection hx with hx; omega
theorem OutS.keepLow {H H' : AHeap} {base es n : Nat} {l : List AV} {x : AV} (h : OutS H base es n l x) (hn : H.next ≤ H'.next) (hk : ∀ b, b < H.next → H'.get b = H.get b) : OutS H' base es n l x := by
  rcases h with h | ⟨b, h1, h2, h3, h4, h5⟩
  · exact .inl h
  · exact .inr ⟨b, h1, by omega, h3, by rw [hk b h2]; exact h4, h5⟩
theorem lvo_of {H : AHeap} {base lo : Nat} {lv : List Lv} {x : AV} {l : List AV} (hO : OutS H base 2 lv.length l x) (hl : lo ≤ base ∧ base ≤ H.next) (hL : LvsO H lo base lv l) : LvO H lo H.next lv x := by
  rcases hO with ⟨h0, rfl, rfl⟩ | ⟨b, g1, g2, g3, g4, g5⟩
  · exact .inl ⟨List.length_eq_zero_iff.1 h0, rfl⟩
  · exact .inr ⟨b, l, by omega, g2, g3, g4, hL.frame (Nat.le_refl _) (by omega) fun b _ _ => rfl⟩
theorem VO.one {H : AHeap} {lo hi : Nat} {v : List (Int × Int)} {y : AV} (h : VO H lo hi v y) : y.one = true := by
  rcases h with ⟨_, rfl⟩ | ⟨b, _, _, rfl, _⟩ <;> rfl
theorem VO.cells {H : AHeap} {lo hi : Nat} {v : List (Int × Int)} {y : AV} (h : VO H lo hi v y) : y.acells = [y] := by
  rcases h with ⟨_, rfl⟩ | ⟨b, _, _, rfl, _⟩ <;> rfl
theorem app_vars {K : ASt → Prop} {tm : Nat → AV} {d : Option Nat} {H : AHeap} {vars : List (Int × Int)} {vx : AV} {vs : List AV} (h1 : SlR vars.length vx vs) (h2 : VarsR vars vs) (hn : vars.length * 16 ≤ 140737488351232)
    (k : ∀ y G1, VO G1 H.next G1.next vars y → H.next ≤ G1.next → (∀ b, b < H.next → G1.get b = H.get b) → K ⟨updO tm d y, G1⟩) : after K tm d (aappend H 2 16 (.v (.slice none 0 0)) vx) := by
  have hs := h1.src2 h2 H
  by_cases h0 : vars.length = 0
  · have hv : vars = [] := List.length_eq_zero_iff.1 h0
    subst hv
    refine OutS.step0 (base := 0) .nil hs (by omega) (k _ _ (.inl ⟨rfl, rfl⟩) (Nat.le_refl _) fun b _ => rfl)
  · refine OutS.stepN (base := 0) .nil hs (by rw [varsC_one]) (by omega) (by omega) ⟨by omega, by omega⟩ (varsC_length _) fun x' H' r1 r2 r3 => ?_
    rw [Nat.zero_add, List.nil_append] at r1
    refine k _ _ ?_ r2 fun b hb => r3 b hb fun _ _ _ _ _ hh => by cases hh
    rcases r1 with ⟨q, _⟩ | ⟨b, g1, g2, g3, g4, g5⟩
    · exact absurd q h0
    · exact .inr ⟨b, g1, g2, g3, g4⟩


set_option maxRecDepth 100000 in
theorem clean_ok : ∀ t, Tm.All TmB t → ∀ (cells : List AV), TmP t cells → ∀ (H : AHeap), SCall Try.prog 32 [.agg cells] H fun x H' => (∃ c, x = .agg c ∧ TmP (cleanT t) c) ∧ H' = H := by
  refine Tm.rule fun f n hid s lv ks ih ha cells hT H => ?_
  have hT' := hT
  have hTc := hT.1
  obtain ⟨lx, kx, ls, cs, rfl, hl1, hl2, hk1, hk2⟩ := hTc.six
  simp only [Tm.All, Tm.form, Tm.n, Tm.hid, Tm.name, Tm.lv, Tm.kids] at *
  obtain ⟨hTB, a5⟩ := ha
  have hTB' := hTB
  simp only [TmB, Tm.form, Tm.n, Tm.name, Tm.lv, Tm.kids] at hTB'
  obtain ⟨_, _, b1, b2, b3, b4⟩ := hTB'
  have e1 : ¬ H.next = H.next + 1 := by omega
  have e2 : ¬ H.next + 1 = H.next := by omega
  have e3 : ¬ H.next = H.next + 1 + 1 := by omega
  have e4 : ¬ H.next + 1 = H.next + 1 + 1 := by omega
  have e5 : ¬ H.next + 1 + 1 = H.next := by omega
  have e6 : ¬ H.next + 1 + 1 = H.next + 1 := by omega
  have p1 := hl1.one
  have p2 := hl1.cells
  have p3 := hk1.one
  have p4 := hk1.cells
  have kal : ∀ G, alen G .slice kx = some ks.length := fun G => hk1.alen G
  have lal : ∀ G, alen G .slice lx = some lv.length := fun G => hl1.alen G
  have hkxo : Old 0 kx := hT'.2 kx (by simp)
  have hlb : ∀ l ∈ lv, l.vars.length * 16 ≤ 140737488351232 := fun l hl => (b4 l hl).2.1
  refine SCall.frz (R := fun x H' => Ext H H' ∧ ∃ y, FrzN H.next H' x y ∧ ∃ c, y = .agg c ∧ TmP (cleanT (.mk f n hid s lv ks)) c) (SCall.intro mixed cf32 ?_) (fun _ _ x H' ⟨h1, y, h2, h3⟩ _ => ⟨h1, y, h2, h3⟩)
  have hbt : ∃ bn bh bs blv, bareT (.mk f n hid s lv ks) = .mk f bn bh bs blv [] := ⟨_, _, _, _, rfl⟩
  obtain ⟨bn, bh, bs, blv, hbt⟩ := hbt
  rw [cleanT, hbt]
  simp -implicitDefEqProofs only [c32, s_seq, s_ops, s_draw, s_skip, s_ret, s_exit, i_nil, i_cons, i_run, i_runG, s_condQ, c_true, c_false, aop, ev_t, ev_c, updO_at, updO_no, upd_at, t_normal, t_ret, t_exit, b_normal, b_ret, b_exit, a_some, ac_v, ac_agg, ac_ptr, ac_slc, ac_ro, ac_rop, ac_fn, new_next, set_next, argTm_zero, argTm_succ, argTm_nil, ab_bool, ab_uv, beq_self_eq_true, Option.some_beq_some, Bool.not_not, beq_iff_eq, decide_true, decide_false, Bool.not_true, Bool.not_false, afld, aload, astore, apack, alen_str, alen_ro, alen_slc, alen_nil, new_get, set_get, ite_true, ite_false, Option.map_some, Option.bind_some, ibin, isShift, Nat.reduceEqDiff, Nat.add_zero, Nat.zero_add, List.length_cons, List.length_nil, Nat.reduceAdd, Nat.reduceLeDiff, List.drop_zero, List.drop_succ_cons, List.take_succ_cons, List.take_zero, if_true, if_false, ↓reduceIte, reduceCtorEq, setL, List.set_cons_zero, List.set_cons_succ, List.all_cons, List.all_nil, one_int, one_bool, one_str, one_nil, one_ptr, one_slc, one_ro, one_rop, one_fn, Bool.and_self, Bool.and_true, true_and, and_true, and_self, Bool.false_eq_true, post_ret, post_normal, resAll, resOne, packR, Option.some.injEq, exists_eq_left', List.map_cons, List.map_nil, List.nil_append, List.append_nil, List.cons_append, d_nil, d_cons, k_nil, k_cons, g_op, g_same, g_new, avBlock, forall_eq', List.getElem?_cons_succ, List.getElem?_cons_zero, List.getElem?_nil, okind, gOk, Int.reduceBEq, Int.reduceBNe, Int.reduceLT, Int.reduceLE, Int.reduceGT, Int.reduceGE, Int.reduceNeg, Int.reduceAdd, Int.reduceSub, bne, false_imp_iff, forall_const, imp_self, implies_true, true_imp_iff, Nat.reduceMul, Nat.reduceLT, Int.reduceToNat, i_callG, p1, p2, p3, p4, e1, e2, e3, e4, e5, e6, afill]
  generalize hG : (((H.new (.cells [aint f, aint n, abl hid, .v (.string s), lx, kx])).new (.cells z6)).new (.cells z6)).set (H.next + 1 + 1) (.cells [aint f, aint 0, abl false, nostr, nils, nils]) = G
  have hE : Ext H G := by rw [← hG]; exact (((((Ext.refl H).new _).new _).new _).set (by omega) _)
  have hg0 : G.get H.next = some (.cells [aint f, aint n, abl hid, .v (.string s), lx, kx]) := by rw [← hG]; simp -implicitDefEqProofs only [go_sem, Nat.reduceEqDiff, Nat.reduceAdd, Nat.reduceLeDiff, ↓reduceIte, reduceCtorEq, Int.reduceBEq, Int.reduceBNe, Int.reduceLT, Int.reduceLE, Int.reduceGT, Int.reduceGE, Int.reduceNeg, Int.reduceAdd, Int.reduceSub, Nat.reduceMul, Nat.reduceLT, Int.reduceToNat, e1, e3]
  have hg1 : G.get (H.next + 1) = some (.cells z6) := by rw [← hG]; simp -implicitDefEqProofs only [go_sem, Nat.reduceEqDiff, Nat.reduceAdd, Nat.reduceLeDiff, ↓reduceIte, reduceCtorEq, Int.reduceBEq, Int.reduceBNe, Int.reduceLT, Int.reduceLE, Int.reduceGT, Int.reduceGE, Int.reduceNeg, Int.reduceAdd, Int.reduceSub, Nat.reduceMul, Nat.reduceLT, Int.reduceToNat, e4]
  have hg2 : G.get (H.next + 1 + 1) = some (.cells [aint f, aint 0, abl false, nostr, nils, nils]) := by rw [← hG]; simp -implicitDefEqProofs only [go_sem, Nat.reduceEqDiff, Nat.reduceAdd, Nat.reduceLeDiff, ↓reduceIte, reduceCtorEq, Int.reduceBEq, Int.reduceBNe, Int.reduceLT, Int.reduceLE, Int.reduceGT, Int.reduceGE, Int.reduceNeg, Int.reduceAdd, Int.reduceSub, Nat.reduceMul, Nat.reduceLT, Int.reduceToNat]
  have hgn : G.next = H.next + 3 := by rw [← hG]; rfl
  clear hG
  refine cutB (M := fun st => st.tm 1 = .ptr H.next 0 ∧ st.tm 2 = .ptr (H.next + 1) 0 ∧ st.tm 3 = .ptr (H.next + 1 + 1) 0 ∧ H.next + 3 ≤ st.heap.next ∧ Ext H st.heap ∧ st.heap.get H.next = some (.cells [aint f, aint n, abl hid, .v (.string s), lx, kx]) ∧ st.heap.get (H.next + 1) = some (.cells z6) ∧
    ∃ ay, LvO st.heap (H.next + 3) st.heap.next blv ay ∧ st.heap.get (H.next + 1 + 1) = some (.cells [aint f, aint bn, abl bh, .v (.string bs), ay, nils])) ?_ ?_
  · by_cases c1 : f = 1 ∨ f = 11
    · have hbt2 : bareT (.mk f n hid s lv ks) = .mk f n false zeroS [] [] := by
        simp only [bareT]
        rcases c1 with rfl | rfl <;> rfl
      rw [hbt] at hbt2
      injection hbt2 with _ k1 k2 k3 k4 _
      have k1 := k1.symm; have k2 := k2.symm; have k3 := k3.symm; have k4 := k4.symm
      subst k1 k2 k3 k4
      rcases c1 with rfl | rfl
      · simp -implicitDefEqProofs only [go_sem, Nat.reduceEqDiff, Nat.reduceAdd, Nat.reduceLeDiff, ↓reduceIte, reduceCtorEq, Int.reduceBEq, Int.reduceBNe, Int.reduceLT, Int.reduceLE, Int.reduceGT, Int.reduceGE, Int.reduceNeg, Int.reduceAdd, Int.reduceSub, Nat.reduceMul, Nat.reduceLT, Int.reduceToNat, hg0, hg1, hg2, p1, p2, p3, p4, e1, e2, e3, e4, e5, e6]
        exact ⟨by omega, hE.set (by omega) _, nils, .inl ⟨rfl, rfl⟩, rfl⟩
      · simp -implicitDefEqProofs only [go_sem, Nat.reduceEqDiff, Nat.reduceAdd, Nat.reduceLeDiff, ↓reduceIte, reduceCtorEq, Int.reduceBEq, Int.reduceBNe, Int.reduceLT, Int.reduceLE, Int.reduceGT, Int.reduceGE, Int.reduceNeg, Int.reduceAdd, Int.reduceSub, Nat.reduceMul, Nat.reduceLT, Int.reduceToNat, hg0, hg1, hg2, p1, p2, p3, p4, e1, e2, e3, e4, e5, e6]
        exact ⟨by omega, hE.set (by omega) _, nils, .inl ⟨rfl, rfl⟩, rfl⟩
    by_cases c2 : f = 3 ∨ f = 4 ∨ f = 5
    · have hbt2 : bareT (.mk f n hid s lv ks) = .mk f 0 hid zeroS [] [] := by
        simp only [bareT]
        rcases c2 with rfl | rfl | rfl <;> rfl
      rw [hbt] at hbt2
      injection hbt2 with _ k1 k2 k3 k4 _
      have k1 := k1.symm; have k2 := k2.symm; have k3 := k3.symm; have k4 := k4.symm
      subst k1 k2 k3 k4
      rcases c2 with rfl | rfl | rfl
      · simp -implicitDefEqProofs only [go_sem, Nat.reduceEqDiff, Nat.reduceAdd, Nat.reduceLeDiff, ↓reduceIte, reduceCtorEq, Int.reduceBEq, Int.reduceBNe, Int.reduceLT, Int.reduceLE, Int.reduceGT, Int.reduceGE, Int.reduceNeg, Int.reduceAdd, Int.reduceSub, Nat.reduceMul, Nat.reduceLT, Int.reduceToNat, hg0, hg1, hg2, p1, p2, p3, p4, e1, e2, e3, e4, e5, e6]
        exact ⟨by omega, hE.set (by omega) _, nils, .inl ⟨rfl, rfl⟩, rfl⟩
      · simp -implicitDefEqProofs only [go_sem, Nat.reduceEqDiff, Nat.reduceAdd, Nat.reduceLeDiff, ↓reduceIte, reduceCtorEq, Int.reduceBEq, Int.reduceBNe, Int.reduceLT, Int.reduceLE, Int.reduceGT, Int.reduceGE, Int.reduceNeg, Int.reduceAdd, Int.reduceSub, Nat.reduceMul, Nat.reduceLT, Int.reduceToNat, hg0, hg1, hg2, p1, p2, p3, p4, e1, e2, e3, e4, e5, e6]
        exact ⟨by omega, hE.set (by omega) _, nils, .inl ⟨rfl, rfl⟩, rfl⟩
      · simp -implicitDefEqProofs only [go_sem, Nat.reduceEqDiff, Nat.reduceAdd, Nat.reduceLeDiff, ↓reduceIte, reduceCtorEq, Int.reduceBEq, Int.reduceBNe, Int.reduceLT, Int.reduceLE, Int.reduceGT, Int.reduceGE, Int.reduceNeg, Int.reduceAdd, Int.reduceSub, Nat.reduceMul, Nat.reduceLT, Int.reduceToNat, hg0, hg1, hg2, p1, p2, p3, p4, e1, e2, e3, e4, e5, e6]
        exact ⟨by omega, hE.set (by omega) _, nils, .inl ⟨rfl, rfl⟩, rfl⟩
    have n1 : ¬ f = 1 := fun h => c1 (.inl h)
    have n11 : ¬ f = 11 := fun h => c1 (.inr h)
    by_cases c3 : f = 2 ∨ f = 10
    · have hbt2 : bareT (.mk f n hid s lv ks) = .mk f 0 false (if f = 10 then s else zeroS) lv [] := by
        simp only [bareT]
        rcases c3 with rfl | rfl <;> rfl
      rw [hbt] at hbt2
      injection hbt2 with _ k1 k2 k3 k4 _
      rcases c3 with rfl | rfl
      · rw [if_neg (by decide)] at k3
        have k1 := k1.symm; have k2 := k2.symm; have k3 := k3.symm; have k4 := k4.symm
        subst k1 k2 k3 k4
        simp -implicitDefEqProofs only [go_sem, Nat.reduceEqDiff, Nat.reduceAdd, Nat.reduceLeDiff, ↓reduceIte, reduceCtorEq, Int.reduceBEq, Int.reduceBNe, Int.reduceLT, Int.reduceLE, Int.reduceGT, Int.reduceGE, Int.reduceNeg, Int.reduceAdd, Int.reduceSub, Nat.reduceMul, Nat.reduceLT, Int.reduceToNat, hg0, hg1, hg2, p1, p2, p3, p4, e1, e2, e3, e4, e5, e6, lal]
        refine swp_range lv.length (fun i st => st.tm 1 = .ptr H.next 0 ∧ st.tm 2 = .ptr (H.next + 1) 0 ∧ st.tm 3 = .ptr (H.next + 1 + 1) 0 ∧ st.tm 4 = aint i ∧ Ext H st.heap ∧ st.heap.get H.next = some (.cells [aint 2, aint n, abl hid, .v (.string s), lx, kx]) ∧ st.heap.get (H.next + 1) = some (.cells z6) ∧
          ∃ base x l, H.next + 3 ≤ base ∧ base ≤ st.heap.next ∧ OutS st.heap base 2 i l x ∧ LvsO st.heap (H.next + 3) base (lv.take i) l ∧ st.heap.get (H.next + 1 + 1) = some (.cells [aint 2, aint 0, abl false, .v (.string zeroS), x, nils])) ?_ ?_ ?_
        · refine ⟨rfl, rfl, rfl, rfl, ?_, ?_, ?_, H.next + 3, _, [], Nat.le_refl _, ?_, .nil, rfl, ?_⟩
          · exact hE
          · exact hg0
          · exact hg1
          · exact Nat.le_of_eq hgn.symm
          · exact hg2
        · rintro i ⟨tm, H2⟩ hi ⟨t1, t2, t3, t4, hE2, x0, x1, base, x, l, hb1, hb2, hO, hL, x2⟩
          simp only at t1 t2 t3 t4 hE2 x0 x1 hb2 hO hL x2
          have hltI : (i : Int) < (lv.length : Int) := by omega
          have hix := hl1.aix 2 hi
          obtain ⟨vx, vs, hle, hld, hv1, hv2⟩ := hl2.at (List.getElem?_eq_getElem hi)
          have w3 : IntKind.i64.wrap ((i : Int) + 1) = (i : Int) + 1 := i64_ok _ (by omega)
          have hle0 : i * 2 + 1 ≤ ls.length := by omega
          have hle1 : i * 2 + 1 + 1 ≤ ls.length := by omega
          have hld0 : (ls.drop (i * 2)).take 1 = [aint lv[i].n] := by
            have := congrArg (List.take 1) hld
            rw [List.take_take] at this
            simpa using this
          have hld1 : (ls.drop (i * 2 + 1)).take 1 = [vx] := by
            have := congrArg (fun q => (List.drop 1 q).take 1) hld
            simp only [List.drop_take, List.drop_drop, List.take_take] at this
            simpa using this
          simp -implicitDefEqProofs only [go_sem, Nat.reduceEqDiff, Nat.reduceAdd, Nat.reduceLeDiff, ↓reduceIte, reduceCtorEq, Int.reduceBEq, Int.reduceBNe, Int.reduceLT, Int.reduceLE, Int.reduceGT, Int.reduceGE, Int.reduceNeg, Int.reduceAdd, Int.reduceSub, Nat.reduceMul, Nat.reduceLT, Int.reduceToNat, t1, t2, t3, t4, x0, x1, x2, lal, hltI, hix, hle0, hle1, hld0, hld1, hv1.one, hv1.cells, hO.one, hO.cells, p1, p2, p3, p4]
          refine app_vars hv1 hv2 (hlb _ (List.getElem_mem hi)) fun y G1 hy hn1 hG1 => ?_
          have y0 := (hG1 _ (by omega)).trans x0
          have y1 := (hG1 _ (by omega)).trans x1
          have y2 := (hG1 _ (by omega)).trans x2
          simp -implicitDefEqProofs only [go_sem, Nat.reduceEqDiff, Nat.reduceAdd, Nat.reduceLeDiff, ↓reduceIte, reduceCtorEq, Int.reduceBEq, Int.reduceBNe, Int.reduceLT, Int.reduceLE, Int.reduceGT, Int.reduceGE, Int.reduceNeg, Int.reduceAdd, Int.reduceSub, Nat.reduceMul, Nat.reduceLT, Int.reduceToNat, t1, t2, t3, t4, y0, y1, y2, lal, hltI, hix, hle0, hle1, hld0, hld1, hv1.one, hv1.cells, hO.one, hO.cells, p1, p2, p3, p4, hy.one, hy.cells, afill]
          refine ((hO.keepLow hn1 hG1).new _).stepN (m := 1) (new := [aint lv[i].n, y]) (asrc_slc (c := [aint lv[i].n, y]) (by rw [new_get]; exact if_pos rfl) (by simp)) (by simp [hy.one, one_int]) (by omega) (by omega) ⟨by omega, by omega⟩ rfl fun x' G' r6 r7 r8 => ?_
          rw [new_next] at r6 r7
          have hGo : ∀ b, b < base → G'.get b = H2.get b := fun b hb => by
            rw [r8 b (by rw [new_next]; omega) (hO.notlow hb), new_get, if_neg (by omega)]; exact hG1 b (by omega)
          have v0 := (hGo _ (by omega)).trans x0
          have v1 := (hGo _ (by omega)).trans x1
          have v2 := (hGo _ (by omega)).trans x2
          simp -implicitDefEqProofs only [go_sem, Nat.reduceEqDiff, Nat.reduceAdd, Nat.reduceLeDiff, ↓reduceIte, reduceCtorEq, Int.reduceBEq, Int.reduceBNe, Int.reduceLT, Int.reduceLE, Int.reduceGT, Int.reduceGE, Int.reduceNeg, Int.reduceAdd, Int.reduceSub, Nat.reduceMul, Nat.reduceLT, Int.reduceToNat, t1, t2, t3, t4, v0, v1, v2, w3, r6.one, r6.cells, hO.one, hO.cells, e1, e2, e3, e4, e5, e6]
          refine ⟨by simp, Ext.set ⟨by have := hE2.1; omega, fun b hb => by rw [hGo b (by omega)]; exact hE2.2 b hb⟩ (by omega) _, G1.next + 1, _, _, by omega, by omega, r6.set (r6.notlow (by omega)) _, ?_, rfl⟩
          rw [List.take_succ_eq_append_getElem hi]
          refine LvsO.snoc ?_ ?_
          · exact hy.frame (by omega) (by omega) fun b q1 q2 => by rw [set_get, if_neg (by omega), r8 b (by rw [new_next]; omega) (hO.high (by omega)), new_get, if_neg (by omega)]
          · exact hL.frame (Nat.le_refl _) (by omega) fun b q1 q2 => by rw [set_get, if_neg (by omega)]; exact hGo b q2
        · rintro ⟨tm, H2⟩ ⟨t1, t2, t3, t4, hE2, x0, x1, base, x, l, hb1, hb2, hO, hL, x2⟩
          simp only at t1 t2 t3 t4 hE2 x0 x1 hb2 hO hL x2
          rw [List.take_length] at hL
          simp -implicitDefEqProofs only [go_sem, Nat.reduceEqDiff, Nat.reduceAdd, Nat.reduceLeDiff, ↓reduceIte, reduceCtorEq, Int.reduceBEq, Int.reduceBNe, Int.reduceLT, Int.reduceLE, Int.reduceGT, Int.reduceGE, Int.reduceNeg, Int.reduceAdd, Int.reduceSub, Nat.reduceMul, Nat.reduceLT, Int.reduceToNat, t1, t2, t3, t4, x0, x1, x2, lal, Int.lt_irrefl, p1, p2, p3, p4, hO.one, hO.cells]
          exact ⟨by omega, hE2, x, lvo_of hO ⟨hb1, hb2⟩ hL, rfl⟩
      · rw [if_pos rfl] at k3
        have k1 := k1.symm; have k2 := k2.symm; have k3 := k3.symm; have k4 := k4.symm
        subst k1 k2 k3 k4
        simp -implicitDefEqProofs only [go_sem, Nat.reduceEqDiff, Nat.reduceAdd, Nat.reduceLeDiff, ↓reduceIte, reduceCtorEq, Int.reduceBEq, Int.reduceBNe, Int.reduceLT, Int.reduceLE, Int.reduceGT, Int.reduceGE, Int.reduceNeg, Int.reduceAdd, Int.reduceSub, Nat.reduceMul, Nat.reduceLT, Int.reduceToNat, hg0, hg1, hg2, p1, p2, p3, p4, e1, e2, e3, e4, e5, e6, lal]
        refine swp_range lv.length (fun i st => st.tm 1 = .ptr H.next 0 ∧ st.tm 2 = .ptr (H.next + 1) 0 ∧ st.tm 3 = .ptr (H.next + 1 + 1) 0 ∧ st.tm 4 = aint i ∧ Ext H st.heap ∧ st.heap.get H.next = some (.cells [aint 10, aint n, abl hid, .v (.string s), lx, kx]) ∧ st.heap.get (H.next + 1) = some (.cells z6) ∧
          ∃ base x l, H.next + 3 ≤ base ∧ base ≤ st.heap.next ∧ OutS st.heap base 2 i l x ∧ LvsO st.heap (H.next + 3) base (lv.take i) l ∧ st.heap.get (H.next + 1 + 1) = some (.cells [aint 10, aint 0, abl false, .v (.string s), x, nils])) ?_ ?_ ?_
        · refine ⟨rfl, rfl, rfl, rfl, ?_, ?_, ?_, H.next + 3, _, [], Nat.le_refl _, ?_, .nil, rfl, ?_⟩
          · exact hE.set (by omega) _
          · show (G.set (H.next + 1 + 1) _).get H.next = _
            rw [set_get, if_neg e3]; exact hg0
          · show (G.set (H.next + 1 + 1) _).get (H.next + 1) = _
            rw [set_get, if_neg e4]; exact hg1
          · exact Nat.le_of_eq hgn.symm
          · show (G.set (H.next + 1 + 1) _).get (H.next + 1 + 1) = _
            rw [set_get]; exact if_pos rfl
        · rintro i ⟨tm, H2⟩ hi ⟨t1, t2, t3, t4, hE2, x0, x1, base, x, l, hb1, hb2, hO, hL, x2⟩
          simp only at t1 t2 t3 t4 hE2 x0 x1 hb2 hO hL x2
          have hltI : (i : Int) < (lv.length : Int) := by omega
          have hix := hl1.aix 2 hi
          obtain ⟨vx, vs, hle, hld, hv1, hv2⟩ := hl2.at (List.getElem?_eq_getElem hi)
          have w3 : IntKind.i64.wrap ((i : Int) + 1) = (i : Int) + 1 := i64_ok _ (by omega)
          have hle0 : i * 2 + 1 ≤ ls.length := by omega
          have hle1 : i * 2 + 1 + 1 ≤ ls.length := by omega
          have hld0 : (ls.drop (i * 2)).take 1 = [aint lv[i].n] := by
            have := congrArg (List.take 1) hld
            rw [List.take_take] at this
            simpa using this
          have hld1 : (ls.drop (i * 2 + 1)).take 1 = [vx] := by
            have := congrArg (fun q => (List.drop 1 q).take 1) hld
            simp only [List.drop_take, List.drop_drop, List.take_take] at this
            simpa using this
          simp -implicitDefEqProofs only [go_sem, Nat.reduceEqDiff, Nat.reduceAdd, Nat.reduceLeDiff, ↓reduceIte, reduceCtorEq, Int.reduceBEq, Int.reduceBNe, Int.reduceLT, Int.reduceLE, Int.reduceGT, Int.reduceGE, Int.reduceNeg, Int.reduceAdd, Int.reduceSub, Nat.reduceMul, Nat.reduceLT, Int.reduceToNat, t1, t2, t3, t4, x0, x1, x2, lal, hltI, hix, hle0, hle1, hld0, hld1, hv1.one, hv1.cells, hO.one, hO.cells, p1, p2, p3, p4]
          refine app_vars hv1 hv2 (hlb _ (List.getElem_mem hi)) fun y G1 hy hn1 hG1 => ?_
          have y0 := (hG1 _ (by omega)).trans x0
          have y1 := (hG1 _ (by omega)).trans x1
          have y2 := (hG1 _ (by omega)).trans x2
          simp -implicitDefEqProofs only [go_sem, Nat.reduceEqDiff, Nat.reduceAdd, Nat.reduceLeDiff, ↓reduceIte, reduceCtorEq, Int.reduceBEq, Int.reduceBNe, Int.reduceLT, Int.reduceLE, Int.reduceGT, Int.reduceGE, Int.reduceNeg, Int.reduceAdd, Int.reduceSub, Nat.reduceMul, Nat.reduceLT, Int.reduceToNat, t1, t2, t3, t4, y0, y1, y2, lal, hltI, hix, hle0, hle1, hld0, hld1, hv1.one, hv1.cells, hO.one, hO.cells, p1, p2, p3, p4, hy.one, hy.cells, afill]
          refine ((hO.keepLow hn1 hG1).new _).stepN (m := 1) (new := [aint lv[i].n, y]) (asrc_slc (c := [aint lv[i].n, y]) (by rw [new_get]; exact if_pos rfl) (by simp)) (by simp [hy.one, one_int]) (by omega) (by omega) ⟨by omega, by omega⟩ rfl fun x' G' r6 r7 r8 => ?_
          rw [new_next] at r6 r7
          have hGo : ∀ b, b < base → G'.get b = H2.get b := fun b hb => by
            rw [r8 b (by rw [new_next]; omega) (hO.notlow hb), new_get, if_neg (by omega)]; exact hG1 b (by omega)
          have v0 := (hGo _ (by omega)).trans x0
          have v1 := (hGo _ (by omega)).trans x1
          have v2 := (hGo _ (by omega)).trans x2
          simp -implicitDefEqProofs only [go_sem, Nat.reduceEqDiff, Nat.reduceAdd, Nat.reduceLeDiff, ↓reduceIte, reduceCtorEq, Int.reduceBEq, Int.reduceBNe, Int.reduceLT, Int.reduceLE, Int.reduceGT, Int.reduceGE, Int.reduceNeg, Int.reduceAdd, Int.reduceSub, Nat.reduceMul, Nat.reduceLT, Int.reduceToNat, t1, t2, t3, t4, v0, v1, v2, w3, r6.one, r6.cells, hO.one, hO.cells, e1, e2, e3, e4, e5, e6]
          refine ⟨by simp, Ext.set ⟨by have := hE2.1; omega, fun b hb => by rw [hGo b (by omega)]; exact hE2.2 b hb⟩ (by omega) _, G1.next + 1, _, _, by omega, by omega, r6.set (r6.notlow (by omega)) _, ?_, rfl⟩
          rw [List.take_succ_eq_append_getElem hi]
          refine LvsO.snoc ?_ ?_
          · exact hy.frame (by omega) (by omega) fun b q1 q2 => by rw [set_get, if_neg (by omega), r8 b (by rw [new_next]; omega) (hO.high (by omega)), new_get, if_neg (by omega)]
          · exact hL.frame (Nat.le_refl _) (by omega) fun b q1 q2 => by rw [set_get, if_neg (by omega)]; exact hGo b q2
        · rintro ⟨tm, H2⟩ ⟨t1, t2, t3, t4, hE2, x0, x1, base, x, l, hb1, hb2, hO, hL, x2⟩
          simp only at t1 t2 t3 t4 hE2 x0 x1 hb2 hO hL x2
          rw [List.take_length] at hL
          simp -implicitDefEqProofs only [go_sem, Nat.reduceEqDiff, Nat.reduceAdd, Nat.reduceLeDiff, ↓reduceIte, reduceCtorEq, Int.reduceBEq, Int.reduceBNe, Int.reduceLT, Int.reduceLE, Int.reduceGT, Int.reduceGE, Int.reduceNeg, Int.reduceAdd, Int.reduceSub, Nat.reduceMul, Nat.reduceLT, Int.reduceToNat, t1, t2, t3, t4, x0, x1, x2, lal, Int.lt_irrefl, p1, p2, p3, p4, hO.one, hO.cells]
          exact ⟨by omega, hE2, x, lvo_of hO ⟨hb1, hb2⟩ hL, rfl⟩
    · have m2 : ¬ f = 2 := fun h => c3 (.inl h)
      have m10 : ¬ f = 10 := fun h => c3 (.inr h)
      have hbt2 : bareT (.mk f n hid s lv ks) = .mk f 0 false zeroS [] [] := by
        simp only [bareT]
        rw [if_neg c1, if_neg c2, if_neg m10, if_neg c3]
      rw [hbt] at hbt2
      injection hbt2 with _ k1 k2 k3 k4 _
      have k1 := k1.symm; have k2 := k2.symm; have k3 := k3.symm; have k4 := k4.symm
      subst k1 k2 k3 k4
      simp -implicitDefEqProofs only [go_sem, Nat.reduceEqDiff, Nat.reduceAdd, Nat.reduceLeDiff, ↓reduceIte, reduceCtorEq, Int.reduceBEq, Int.reduceBNe, Int.reduceLT, Int.reduceLE, Int.reduceGT, Int.reduceGE, Int.reduceNeg, Int.reduceAdd, Int.reduceSub, Nat.reduceMul, Nat.reduceLT, Int.reduceToNat, hg0, hg1, hg2, p1, p2, p3, p4, e1, e2, e3, e4, e5, e6, bne' n1, bne' n11, bne' m2, bne' m10, bne' (fun h => c2 (.inl h)), bne' (fun h => c2 (.inr (.inl h))), bne' (fun h => c2 (.inr (.inr h)))]
      exact ⟨by omega, hE, nils, .inl ⟨rfl, rfl⟩, rfl⟩
  rintro ⟨tm, H1⟩ ⟨t1, t2, t3, hn1, hE1, x0, x1, ay, hL, x2⟩
  simp only at t1 t2 t3 hn1 hE1 x0 x1 hL x2
  simp -implicitDefEqProofs only [go_sem, Nat.reduceEqDiff, Nat.reduceAdd, Nat.reduceLeDiff, ↓reduceIte, reduceCtorEq, Int.reduceBEq, Int.reduceBNe, Int.reduceLT, Int.reduceLE, Int.reduceGT, Int.reduceGE, Int.reduceNeg, Int.reduceAdd, Int.reduceSub, Nat.reduceMul, Nat.reduceLT, Int.reduceToNat, t1, t2, t3]
  refine swp_range ks.length (fun i st => st.tm 1 = .ptr H.next 0 ∧ st.tm 2 = .ptr (H.next + 1) 0 ∧ st.tm 3 = .ptr (H.next + 1 + 1) 0 ∧ st.tm 5 = aint i ∧ H1.next ≤ st.heap.next ∧ Ext H st.heap ∧ st.heap.get H.next = some (.cells [aint f, aint n, abl hid, .v (.string s), lx, kx]) ∧ st.heap.get (H.next + 1) = some (.cells z6) ∧
    LvO st.heap (H.next + 3) H1.next blv ay ∧ ∃ x l, OutS st.heap H1.next 6 i l x ∧ KsX (cleanK (ks.take i)) l ∧ st.heap.get (H.next + 1 + 1) = some (.cells [aint f, aint bn, abl bh, .v (.string bs), ay, x])) ?_ ?_ ?_
  · refine ⟨?_, ?_, ?_, rfl, Nat.le_refl _, hE1, x0, x1, hL, _, [], .nil, rfl, x2⟩
    all_goals simp -implicitDefEqProofs only [go_sem, Nat.reduceEqDiff, Nat.reduceAdd, Nat.reduceLeDiff, ↓reduceIte, reduceCtorEq, Int.reduceBEq, Int.reduceBNe, Int.reduceLT, Int.reduceLE, Int.reduceGT, Int.reduceGE, Int.reduceNeg, Int.reduceAdd, Int.reduceSub, Nat.reduceMul, Nat.reduceLT, Int.reduceToNat, t1, t2, t3]
  · rintro i ⟨tm, H2⟩ hi ⟨t1, t2, t3, t5, hnx, hE2, x0, x1, hL2, x, l, hO, hX, x2⟩
    simp only at t1 t2 t3 t5 hnx hE2 x0 x1 hL2 hO x2
    have hcso : ∀ y ∈ cs, Old 0 y := by
      rcases hk1 with ⟨h, _⟩ | ⟨lo, ex, rfl, _⟩
      · omega
      · cases hkxo with | ro _ _ _ _ h => exact h
    have hltI : (i : Int) < (ks.length : Int) := by omega
    have hix := hk1.aix 6 hi
    obtain ⟨kc, hkc, hle, hld⟩ := hk2.load (List.getElem?_eq_getElem hi)
    have hkm := List.getElem_mem hi
    have hkP : TmP ks[i] kc := ⟨hkc, fun y hy => hcso y (by rw [← hld] at hy; exact List.mem_of_mem_drop (List.mem_of_mem_take hy))⟩
    obtain ⟨ux, vx, hk6, q1, q2, q3, q4, q5, q6, q7, q8⟩ := hkP.six
    have w3 : IntKind.i64.wrap ((i : Int) + 1) = (i : Int) + 1 := i64_ok _ (by omega)
    simp -implicitDefEqProofs only [go_sem, Nat.reduceEqDiff, Nat.reduceAdd, Nat.reduceLeDiff, ↓reduceIte, reduceCtorEq, Int.reduceBEq, Int.reduceBNe, Int.reduceLT, Int.reduceLE, Int.reduceGT, Int.reduceGE, Int.reduceNeg, Int.reduceAdd, Int.reduceSub, Nat.reduceMul, Nat.reduceLT, Int.reduceToNat, t1, t2, t3, t5, x0, x1, x2, kal, hltI, hix, hle, hld, hL2.one, hL2.cells, hO.one, hO.cells]
    refine i_callA (fs := []) (cs := []) (fid := 32) ?_ ?_ (ih ks[i] hkm (a5.mem _ hkm) _ hkP _) ?_
    · rfl
    · simp -implicitDefEqProofs only [go_sem, Nat.reduceEqDiff, Nat.reduceAdd, Nat.reduceLeDiff, ↓reduceIte, reduceCtorEq, Int.reduceBEq, Int.reduceBNe, Int.reduceLT, Int.reduceLE, Int.reduceGT, Int.reduceGE, Int.reduceNeg, Int.reduceAdd, Int.reduceSub, Nat.reduceMul, Nat.reduceLT, Int.reduceToNat]
    rintro y H3 ⟨⟨xc, rfl, hxc⟩, hHH⟩
    have hHH := hHH.symm
    subst hHH
    obtain ⟨zl, zk, hx6, z1, z2, z3, z4, z5, z6', z7, z8⟩ := hxc.six
    subst hx6
    simp -implicitDefEqProofs only [go_sem, Nat.reduceEqDiff, Nat.reduceAdd, Nat.reduceLeDiff, ↓reduceIte, reduceCtorEq, Int.reduceBEq, Int.reduceBNe, Int.reduceLT, Int.reduceLE, Int.reduceGT, Int.reduceGE, Int.reduceNeg, Int.reduceAdd, Int.reduceSub, Nat.reduceMul, Nat.reduceLT, Int.reduceToNat, t1, t2, t3, t5, x0, x1, x2, hL2.one, hL2.cells, hO.one, hO.cells, z1, z2, z3, z4, afill]
    refine (hO.new _).step (m := 1) (new := [aint (cleanT ks[i]).form, aint (cleanT ks[i]).n, abl (cleanT ks[i]).hid, .v (.string (cleanT ks[i]).name), zl, zk]) (asrc_slc (c := [aint (cleanT ks[i]).form, aint (cleanT ks[i]).n, abl (cleanT ks[i]).hid, .v (.string (cleanT ks[i]).name), zl, zk]) (by rw [new_get]; exact if_pos rfl) (by simp)) z8 (by omega) (by omega) ⟨by omega, by omega⟩ rfl (by rw [new_next]; omega) fun x' G' r6 r7 r8 => ?_
    rw [new_next] at r7
    have hGo : ∀ b, b < H1.next → G'.get b = H2.get b := fun b hb => by
      rw [r8 b (by rw [new_next]; omega) (hO.notlow (by omega)), new_get, if_neg (by omega)]
    have x2' := (hGo _ (by omega)).trans x2
    simp -implicitDefEqProofs only [go_sem, Nat.reduceEqDiff, Nat.reduceAdd, Nat.reduceLeDiff, ↓reduceIte, reduceCtorEq, Int.reduceBEq, Int.reduceBNe, Int.reduceLT, Int.reduceLE, Int.reduceGT, Int.reduceGE, Int.reduceNeg, Int.reduceAdd, Int.reduceSub, Nat.reduceMul, Nat.reduceLT, Int.reduceToNat, t3, t5, w3, x2', hL2.one, hL2.cells, hO.one, hO.cells, r6.one, r6.cells, e1, e2, e3, e4, e5, e6]
    refine ⟨t1, t2, by simp, by omega, Ext.set ⟨by have := hE2.1; omega, fun b hb => by rw [hGo b (by omega)]; exact hE2.2 b hb⟩ (by omega) _, (hGo _ (by omega)).trans x0, (hGo _ (by omega)).trans x1, hL2.frame fun b q1 q2 => by rw [set_get, if_neg (by omega)]; exact hGo b q2, _, _, r6.set (r6.notlow (by omega)) _, ?_, rfl⟩
    rw [cleanK_take ks i hi]
    exact hX.snoc hxc
  · rintro ⟨tm, H2⟩ ⟨t1, t2, t3, t5, hnx, hE2, x0, x1, hL2, x, l, hO, hX, x2⟩
    simp only at t1 t2 t3 t5 hnx hE2 x0 x1 hL2 hO x2
    rw [List.take_length] at hX
    simp -implicitDefEqProofs only [go_sem, Nat.reduceEqDiff, Nat.reduceAdd, Nat.reduceLeDiff, ↓reduceIte, reduceCtorEq, Int.reduceBEq, Int.reduceBNe, Int.reduceLT, Int.reduceLE, Int.reduceGT, Int.reduceGE, Int.reduceNeg, Int.reduceAdd, Int.reduceSub, Nat.reduceMul, Nat.reduceLT, Int.reduceToNat, t1, t2, t3, t5, x0, x1, x2, kal, Int.lt_irrefl, hL2.one, hL2.cells, hO.one, hO.cells, e1, e2, e3, e4, e5, e6]
    have hO2 := hO.set (b' := H.next + 1) (hO.notlow (by omega)) (.cells [aint f, aint bn, abl bh, .v (.string bs), ay, x])
    have hL3 := hL2.frame (G := H2.set (H.next + 1) (.cells [aint f, aint bn, abl bh, .v (.string bs), ay, x])) fun b q1 q2 => by rw [set_get, if_neg (by omega)]
    obtain ⟨zy, z1, z2⟩ := hL3.frz (N := H.next) (by omega)
    rw [← cleanK_len ks] at hO2
    obtain ⟨z, h3, h4⟩ := hO2.frzOld (N := H.next) (by omega) (fun y hy => (hX.old y hy).mono (Nat.zero_le _))
    exact ⟨hE2.set (by omega) _, _, FrzN.six (.keep _ (.v _)) (.keep _ (.v _)) (.keep _ (.v _)) (.keep _ (.v _)) z1 h3, _, rfl, tmp_mk z2 (SlK.of hX h4)⟩
end Go.Proofs.Ytooaiddfokbffaa.E

/- The reference's Lift and Exactly. Conditions: none. -/
set_option linter.unusedVariables false
set_option linter.unusedSimpArgs false
namespace Go.Proofs.Ytooaiddfokbffaa.E
open Go Go.Proofs
attribute [local go_sem] s_seq s_ops s_draw s_block s_skip s_ret s_exit i_nil i_cons i_run i_runG s_condQ c_true c_false aop ev_t ev_c updO_at updO_no upd_at t_normal t_ret t_exit b_normal b_ret b_exit a_some ac_v ac_agg ac_ptr ac_slc ac_ro ac_rop ac_fn new_next set_next argTm_zero argTm_succ argTm_nil ab_bool ab_uv beq_self_eq_true Option.some_beq_some Bool.not_not beq_iff_eq decide_true decide_false Bool.not_true Bool.not_false afld aload astore apack alen_str alen_ro alen_slc alen_nil new_get set_get ite_true ite_false Option.map_some Option.bind_some ibin isShift Nat.add_zero Nat.zero_add List.length_cons List.length_nil List.drop_zero List.drop_succ_cons List.take_succ_cons List.take_zero if_true if_false setL List.set_cons_zero List.set_cons_succ List.all_cons List.all_nil one_int one_bool one_str one_nil one_ptr one_slc one_ro one_rop one_fn Bool.and_self Bool.and_true true_and and_true and_self Bool.false_eq_true post_ret post_normal resAll resOne packR Option.some.injEq exists_eq_left' List.map_cons List.map_nil List.nil_append List.append_nil List.cons_append d_nil d_cons k_nil k_cons g_op g_same g_new avBlock forall_eq' List.getElem?_cons_succ List.getElem?_cons_zero List.getElem?_nil okind gOk bne false_imp_iff forall_const imp_self implies_true true_imp_iff i_callG

/-! ### Plain laws -/
mutual
theorem fit_clean (c high : Int) : ∀ t, fitT c high (cleanT t) = fitT c high t
  | .mk f n h s lv ks => by
    rw [cleanT, bare_mk, fitT, fitT]
    split
    · rfl
    · exact fit_cleanK (c + 1) (high + 1) ks
theorem fit_cleanK (c high : Int) : ∀ ks, fitK c high (cleanK ks) = fitK c high ks
  | [] => rfl
  | k :: r => by
    simp only [cleanK, fitK]
    rw [fit_clean c high k]
    split
    · exact fit_cleanK _ high r
    · rfl
end
theorem clean_form (t : Tm) : (cleanT t).form = t.form := by cases t; rfl
theorem head_clean (f : Int) : ∀ ks, headIs f (cleanK ks) = headIs f ks
  | [] => rfl
  | k :: r => by simp only [cleanK, headIs, clean_form]
theorem formF_clean (r : Lv → Bool) (f n : Int) (h : Bool) (s : ByteArray) (lv : List Lv) (ks : List Tm) : formF r (cleanT (.mk f n h s lv ks)) = formF r (.mk f n h s lv ks) := by
  rw [cleanT, bare_mk]
  by_cases hk : kidsF f = (ks.length : Int)
  · rw [formF_eq r _ _ _ _ _ _ hk, formF_eq r _ _ _ _ _ _ (by rw [cleanK_len]; exact hk), head_clean]
    by_cases h1 : f = 1 ∨ f = 11
    · rw [if_pos h1, if_pos h1, if_pos h1]
    · rw [if_neg h1, if_neg h1]
      by_cases h2 : f = 2
      · subst h2; rfl
      · by_cases h10 : f = 10
        · subst h10; rfl
        · rw [if_neg h2, if_neg h2, if_neg h10, if_neg h10]
  · unfold formF
    rw [if_pos (by show kidsF f ≠ ((cleanK ks).length : Int); rw [cleanK_len]; exact hk), if_pos (by exact hk)]
mutual
theorem allF_clean (r : Lv → Bool) : ∀ t, allF (formF r) (cleanT t) = allF (formF r) t
  | .mk f n h s lv ks => by
    have h1 := formF_clean r f n h s lv ks
    rw [cleanT, bare_mk] at h1 ⊢
    simp only [allF]
    rw [h1, allF_cleanK r ks]
theorem allF_cleanK (r : Lv → Bool) : ∀ ks, allK (formF r) (cleanK ks) = allK (formF r) ks
  | [] => rfl
  | k :: q => by simp only [cleanK, allK]; rw [allF_clean r k, allF_cleanK r q]
end
theorem check_clean (r : Lv → Bool) (t : Tm) : checkF r (cleanT t) = checkF r t := by
  unfold checkF
  rw [fit_clean, allF_clean]

mutual
theorem clean_rl (fr by_ deep : Int) : ∀ t, Tm.All Vk t → cleanT (rlT (fr + deep) by_ t) = liftT fr by_ deep t
  | .mk f n h s lv ks, ha => by
    simp only [Tm.All, Vk, Tm.form, Tm.kids] at ha
    rw [rlT]
    by_cases hf : f = 1 ∧ n ≥ fr + deep
    · rw [if_pos hf, lift_var _ _ _ hf]
      obtain ⟨rfl, _⟩ := hf
      obtain rfl := ha.1 rfl
      rfl
    · rw [if_neg hf, lift_node _ _ _ hf, cleanT, clean_rlK fr by_ f deep ks 0 ha.2, bare_mk, bare_mk]
theorem clean_rlK (fr by_ f deep : Int) : ∀ (ks : List Tm) (i : Nat), Tm.AllL Vk ks → cleanK (rlK (fr + deep) by_ f i ks) = liftK fr by_ f i deep ks
  | [], _, _ => rfl
  | k :: r, i, ha => by
    simp only [Tm.AllL] at ha
    simp only [rlK, cleanK, liftK]
    rw [underF_add', clean_rl fr by_ _ k ha.1, clean_rlK fr by_ f deep r (i + 1) ha.2]
end
theorem clean_raw (fr by_ : Int) (t : Tm) (hk : Tm.All Vk t) : cleanT (rawLiftF fr by_ t) = liftT fr by_ 0 t := by
  unfold rawLiftF
  split
  · rename_i h
    rw [h.1, h.2, lift_zero 0 t hk]
  · exact clean_lift ..

def wholeF (t : Tm) : Tm × Int := if ¬ checkF canF t = 0 then (zeroTm, 2) else (cleanT t, 0)
theorem whole_told {x y : Tm} (h : cleanT x = cleanT y) : wholeF x = toldF 0 (cleanT y) := by
  unfold wholeF toldF
  rw [← check_clean canF x, h]
  by_cases hc : checkF canF (cleanT y) = 0
  · rw [if_neg (by simp [hc]), if_neg (by simp [hc])]
  · rw [if_pos hc, if_pos (.inr hc)]

/-! ### The code -/
set_option maxRecDepth 100000 in
theorem whole_ok (t : Tm) (ha : Tm.All TmB t) (cells : List AV) (hT : TmP t cells) (H : AHeap) : SCall Try.prog 78 [.agg cells] H fun x H' => TmE (wholeF t).1 (wholeF t).2 x ∧ H' = H := by
  have hT' := hT
  obtain ⟨lx, kx, hc6, p1, p2, p3, p4, p5, p6, p7, p8⟩ := hT.six
  subst hc6
  have main : SCall Try.prog 78 [.agg [aint t.form, aint t.n, abl t.hid, .v (.string t.name), lx, kx]] H fun x H' => TmE (wholeF t).1 (wholeF t).2 x ∧ Ext H H' := by
    refine SCall.intro mixed cf78 ?_
    have e1 : ¬ H.next = H.next + 1 := by omega
    have e2 : ¬ H.next + 1 = H.next := by omega
    simp -implicitDefEqProofs only [c78, go_sem, Nat.reduceEqDiff, Nat.reduceAdd, Nat.reduceLeDiff, ↓reduceIte, reduceCtorEq, Int.reduceBEq, Int.reduceBNe, Int.reduceLT, Int.reduceLE, Int.reduceGT, Int.reduceGE, Int.reduceNeg, Int.reduceAdd, Int.reduceSub, Nat.reduceMul, Nat.reduceLT, Int.reduceToNat, p1, p2, p3, p4, e1, e2, afill]
    refine i_callA (fs := []) (cs := []) ?_ ?_ (check2_ok canF t (tmb_fine2 ha) _ hT'.1 _) ?_
    · rfl
    · simp -implicitDefEqProofs only [go_sem, Nat.reduceEqDiff, Nat.reduceAdd, Nat.reduceLeDiff, ↓reduceIte, reduceCtorEq, Int.reduceBEq, Int.reduceBNe, Int.reduceLT, Int.reduceLE, Int.reduceGT, Int.reduceGE, Int.reduceNeg, Int.reduceAdd, Int.reduceSub, Nat.reduceMul, Nat.reduceLT, Int.reduceToNat]
    rintro x H3 ⟨rfl, rfl⟩
    rw [check_same]
    by_cases hc : checkF canF t = 0
    · rw [hc]
      simp -implicitDefEqProofs only [go_sem, Nat.reduceEqDiff, Nat.reduceAdd, Nat.reduceLeDiff, ↓reduceIte, reduceCtorEq, Int.reduceBEq, Int.reduceBNe, Int.reduceLT, Int.reduceLE, Int.reduceGT, Int.reduceGE, Int.reduceNeg, Int.reduceAdd, Int.reduceSub, Nat.reduceMul, Nat.reduceLT, Int.reduceToNat, p1, p2, p3, p4, e1, e2, afill]
      refine i_callA (fs := []) (cs := []) ?_ ?_ (clean_ok t ha _ hT' _) ?_
      · rfl
      · simp -implicitDefEqProofs only [go_sem, Nat.reduceEqDiff, Nat.reduceAdd, Nat.reduceLeDiff, ↓reduceIte, reduceCtorEq, Int.reduceBEq, Int.reduceBNe, Int.reduceLT, Int.reduceLE, Int.reduceGT, Int.reduceGE, Int.reduceNeg, Int.reduceAdd, Int.reduceSub, Nat.reduceMul, Nat.reduceLT, Int.reduceToNat]
      rintro x H3 ⟨⟨xc, rfl, hxc⟩, rfl⟩
      obtain ⟨ax, bx, hx6, k1, k2, k3, k4, _⟩ := hxc.six
      subst hx6
      simp -implicitDefEqProofs only [go_sem, Nat.reduceEqDiff, Nat.reduceAdd, Nat.reduceLeDiff, ↓reduceIte, reduceCtorEq, Int.reduceBEq, Int.reduceBNe, Int.reduceLT, Int.reduceLE, Int.reduceGT, Int.reduceGE, Int.reduceNeg, Int.reduceAdd, Int.reduceSub, Nat.reduceMul, Nat.reduceLT, Int.reduceToNat, e1, e2, k1, k2, k3, k4]
      have hw : wholeF t = (cleanT t, 0) := if_neg (by simp [hc])
      rw [hw]
      exact ⟨⟨_, rfl, hxc⟩, (((Ext.refl H).new _).new _).set (by omega) _⟩
    · simp -implicitDefEqProofs only [go_sem, Nat.reduceEqDiff, Nat.reduceAdd, Nat.reduceLeDiff, ↓reduceIte, reduceCtorEq, Int.reduceBEq, Int.reduceBNe, Int.reduceLT, Int.reduceLE, Int.reduceGT, Int.reduceGE, Int.reduceNeg, Int.reduceAdd, Int.reduceSub, Nat.reduceMul, Nat.reduceLT, Int.reduceToNat, p1, p2, p3, p4, e1, e2, afill, bne' hc]
      exact ⟨⟨z6, by simp [wholeF, hc], by simp [wholeF, hc]; exact tmp_zero⟩, (((Ext.refl H).new _).new _).set (by omega) _⟩
  exact main.frz fun _ _ x H' ⟨hx, hE⟩ _ => ⟨hE, x, .keep _ (hx.old _), hx⟩

theorem tmb_rl (fr by_ : Int) (hby : 0 ≤ by_ ∧ by_ ≤ 4611686018427387904) : ∀ t, Tm.All TmB t → Tm.All Vn t → ∀ fr : Int, Tm.All TmB (rlT fr by_ t) := by
  refine Tm.rule fun f n hd s lv ks ih ha hv fr => ?_
  simp only [Tm.All] at ha hv
  rw [rlT]
  split
  · rename_i h
    have := hv.1 h.1
    simp only [Tm.n] at this
    have h1 := ha.1
    simp only [TmB, Tm.form, Tm.n, Tm.name, Tm.lv, Tm.kids] at h1
    simp only [Tm.All]
    exact ⟨⟨h1.1, ⟨by show -9223372036854775808 ≤ n + by_; omega, by show n + by_ ≤ 9223372036854775807; omega⟩, h1.2.2⟩, ha.2⟩
  have h1 := ha.1
  simp only [TmB, Tm.form, Tm.n, Tm.name, Tm.lv, Tm.kids] at h1
  simp only [Tm.All]
  refine ⟨⟨h1.1, h1.2.1, h1.2.2.1, h1.2.2.2.1, by show (rlK fr by_ f 0 ks).length * 88 ≤ _; rw [rlK_len]; exact h1.2.2.2.2.1, h1.2.2.2.2.2⟩, ?_⟩
  have key : ∀ ks', (∀ k ∈ ks', k ∈ ks) → ∀ (i : Nat), Tm.AllL TmB (rlK fr by_ f i ks') := by
    intro ks'
    induction ks' with
    | nil => intro _ i; trivial
    | cons k r ih' => intro hm i; exact ⟨ih k (hm k (List.mem_cons_self ..)) (ha.2.mem k (hm k (List.mem_cons_self ..))) (hv.2.mem k (hm k (List.mem_cons_self ..))) _, ih' (fun k hk => hm k (List.mem_cons_of_mem _ hk)) (i + 1)⟩
  exact key ks (fun _ h => h) 0

set_option maxRecDepth 100000 in
theorem Lift2_ok (fr by_ : Int) (hr1 : Rng fr) (hr2 : Rng by_) (t : Tm) (ha : Tm.All TmB t) (hh : htT t ≤ 1000000) (hz : szT t ≤ 1000000) (cells : List AV) (hT : TmP t cells) (H : AHeap) :
    SCall Try.prog 19 [.agg cells, aint fr, aint by_] H fun x H' => TmE (LiftF fr by_ t).1 (LiftF fr by_ t).2 x ∧ H' = H := by
  have hT' := hT
  obtain ⟨lx, kx, hc6, p1, p2, p3, p4, p5, p6, p7, p8⟩ := hT.six
  subst hc6
  have main : SCall Try.prog 19 [.agg [aint t.form, aint t.n, abl t.hid, .v (.string t.name), lx, kx], aint fr, aint by_] H fun x H' => TmE (LiftF fr by_ t).1 (LiftF fr by_ t).2 x ∧ Ext H H' := by
    refine SCall.intro mixed cf19 ?_
    have e1 : ¬ H.next = H.next + 1 := by omega
    have e2 : ¬ H.next + 1 = H.next := by omega
    have hE : ∀ o1 o2 o3, Ext H (((H.new o1).new o2).set (H.next + 1) o3) := fun o1 o2 o3 => (((Ext.refl H).new _).new _).set (by omega) _
    simp -implicitDefEqProofs only [c19, go_sem, Nat.reduceEqDiff, Nat.reduceAdd, Nat.reduceLeDiff, ↓reduceIte, reduceCtorEq, Int.reduceBEq, Int.reduceBNe, Int.reduceLT, Int.reduceLE, Int.reduceGT, Int.reduceGE, Int.reduceNeg, Int.reduceAdd, Int.reduceSub, Nat.reduceMul, Nat.reduceLT, Int.reduceToNat, p1, p2, p3, p4, e1, e2]
    refine i_callA (fs := []) (cs := []) ?_ ?_ (check2_ok canF t (tmb_fine2 ha) _ hT'.1 _) ?_
    · rfl
    · simp -implicitDefEqProofs only [go_sem, Nat.reduceEqDiff, Nat.reduceAdd, Nat.reduceLeDiff, ↓reduceIte, reduceCtorEq, Int.reduceBEq, Int.reduceBNe, Int.reduceLT, Int.reduceLE, Int.reduceGT, Int.reduceGE, Int.reduceNeg, Int.reduceAdd, Int.reduceSub, Nat.reduceMul, Nat.reduceLT, Int.reduceToNat]
    rintro x H3 ⟨rfl, rfl⟩
    rw [check_same]
    by_cases hc : checkF canF t = 0
    case neg =>
      simp -implicitDefEqProofs only [go_sem, Nat.reduceEqDiff, Nat.reduceAdd, Nat.reduceLeDiff, ↓reduceIte, reduceCtorEq, Int.reduceBEq, Int.reduceBNe, Int.reduceLT, Int.reduceLE, Int.reduceGT, Int.reduceGE, Int.reduceNeg, Int.reduceAdd, Int.reduceSub, Nat.reduceMul, Nat.reduceLT, Int.reduceToNat, p1, p2, p3, p4, e1, e2, afill, bne' hc]
      exact ⟨⟨z6, by simp [LiftF, hc], by simp [LiftF, hc]; exact tmp_zero⟩, hE _ _ _⟩
    rw [hc]
    by_cases g1 : fr < 0
    · simp -implicitDefEqProofs only [go_sem, Nat.reduceEqDiff, Nat.reduceAdd, Nat.reduceLeDiff, ↓reduceIte, reduceCtorEq, Int.reduceBEq, Int.reduceBNe, Int.reduceLT, Int.reduceLE, Int.reduceGT, Int.reduceGE, Int.reduceNeg, Int.reduceAdd, Int.reduceSub, Nat.reduceMul, Nat.reduceLT, Int.reduceToNat, p1, p2, p3, p4, e1, e2, afill, g1]
      exact ⟨⟨z6, by simp [LiftF, hc, g1], by simp [LiftF, hc, g1]; exact tmp_zero⟩, hE _ _ _⟩
    by_cases g2 : by_ < 0
    · simp -implicitDefEqProofs only [go_sem, Nat.reduceEqDiff, Nat.reduceAdd, Nat.reduceLeDiff, ↓reduceIte, reduceCtorEq, Int.reduceBEq, Int.reduceBNe, Int.reduceLT, Int.reduceLE, Int.reduceGT, Int.reduceGE, Int.reduceNeg, Int.reduceAdd, Int.reduceSub, Nat.reduceMul, Nat.reduceLT, Int.reduceToNat, p1, p2, p3, p4, e1, e2, afill, g1, g2]
      exact ⟨⟨z6, by simp [LiftF, hc, g2], by simp [LiftF, hc, g2]; exact tmp_zero⟩, hE _ _ _⟩
    by_cases g3 : fr > 1048576
    · simp -implicitDefEqProofs only [go_sem, Nat.reduceEqDiff, Nat.reduceAdd, Nat.reduceLeDiff, ↓reduceIte, reduceCtorEq, Int.reduceBEq, Int.reduceBNe, Int.reduceLT, Int.reduceLE, Int.reduceGT, Int.reduceGE, Int.reduceNeg, Int.reduceAdd, Int.reduceSub, Nat.reduceMul, Nat.reduceLT, Int.reduceToNat, p1, p2, p3, p4, e1, e2, afill, g1, g2, g3]
      exact ⟨⟨z6, by simp [LiftF, hc, g3], by simp [LiftF, hc, g3]; exact tmp_zero⟩, hE _ _ _⟩
    by_cases g4 : by_ > 1048576
    · simp -implicitDefEqProofs only [go_sem, Nat.reduceEqDiff, Nat.reduceAdd, Nat.reduceLeDiff, ↓reduceIte, reduceCtorEq, Int.reduceBEq, Int.reduceBNe, Int.reduceLT, Int.reduceLE, Int.reduceGT, Int.reduceGE, Int.reduceNeg, Int.reduceAdd, Int.reduceSub, Nat.reduceMul, Nat.reduceLT, Int.reduceToNat, p1, p2, p3, p4, e1, e2, afill, g1, g2, g3, g4]
      exact ⟨⟨z6, by simp [LiftF, hc, g4], by simp [LiftF, hc, g4]; exact tmp_zero⟩, hE _ _ _⟩
    have hv := check_vn ha hc
    have hvk : Tm.All Vk t := all_mono (fun t h hf => (h.2 hf).2) t (form_vok canF t ha (check_form hc).2)
    have hF : LiftF fr by_ t = wholeF (rlT fr by_ t) := by
      simp only [LiftF]
      rw [if_neg (by simp [hc]), if_neg (by omega)]
      refine (whole_told ?_).symm
      have h1 := clean_rl fr by_ 0 t hvk
      rw [Int.add_zero] at h1
      rw [h1, clean_raw fr by_ t hvk]
    have hb1 : Tm.All TmB (rlT fr by_ t) := tmb_rl fr by_ (by omega) t ha hv fr
    rw [hF]
    simp -implicitDefEqProofs only [go_sem, Nat.reduceEqDiff, Nat.reduceAdd, Nat.reduceLeDiff, ↓reduceIte, reduceCtorEq, Int.reduceBEq, Int.reduceBNe, Int.reduceLT, Int.reduceLE, Int.reduceGT, Int.reduceGE, Int.reduceNeg, Int.reduceAdd, Int.reduceSub, Nat.reduceMul, Nat.reduceLT, Int.reduceToNat, p1, p2, p3, p4, e1, e2, g1, g2, g3, g4]
    refine i_callA (fs := []) (cs := []) ?_ ?_ (rl_ok by_ (by omega) t ha hv _ hT' fr (by omega) (by omega) _) ?_
    · rfl
    · simp -implicitDefEqProofs only [go_sem, Nat.reduceEqDiff, Nat.reduceAdd, Nat.reduceLeDiff, ↓reduceIte, reduceCtorEq, Int.reduceBEq, Int.reduceBNe, Int.reduceLT, Int.reduceLE, Int.reduceGT, Int.reduceGE, Int.reduceNeg, Int.reduceAdd, Int.reduceSub, Nat.reduceMul, Nat.reduceLT, Int.reduceToNat]
    rintro x H3 ⟨⟨c1, rfl, h1⟩, rfl⟩
    simp -implicitDefEqProofs only [go_sem, Nat.reduceEqDiff, Nat.reduceAdd, Nat.reduceLeDiff, ↓reduceIte, reduceCtorEq, Int.reduceBEq, Int.reduceBNe, Int.reduceLT, Int.reduceLE, Int.reduceGT, Int.reduceGE, Int.reduceNeg, Int.reduceAdd, Int.reduceSub, Nat.reduceMul, Nat.reduceLT, Int.reduceToNat]
    refine i_callA (fs := []) (cs := []) ?_ ?_ (whole_ok (rlT fr by_ t) hb1 _ h1 _) ?_
    · rfl
    · simp -implicitDefEqProofs only [go_sem, Nat.reduceEqDiff, Nat.reduceAdd, Nat.reduceLeDiff, ↓reduceIte, reduceCtorEq, Int.reduceBEq, Int.reduceBNe, Int.reduceLT, Int.reduceLE, Int.reduceGT, Int.reduceGE, Int.reduceNeg, Int.reduceAdd, Int.reduceSub, Nat.reduceMul, Nat.reduceLT, Int.reduceToNat]
    rintro x H3 ⟨⟨c3, rfl, h3⟩, rfl⟩
    obtain ⟨ax, bx, hx6, k1, k2, k3, k4, _⟩ := h3.six
    subst hx6
    simp -implicitDefEqProofs only [go_sem, Nat.reduceEqDiff, Nat.reduceAdd, Nat.reduceLeDiff, ↓reduceIte, reduceCtorEq, Int.reduceBEq, Int.reduceBNe, Int.reduceLT, Int.reduceLE, Int.reduceGT, Int.reduceGE, Int.reduceNeg, Int.reduceAdd, Int.reduceSub, Nat.reduceMul, Nat.reduceLT, Int.reduceToNat, e1, e2, k1, k2, k3, k4]
    exact ⟨⟨_, rfl, h3⟩, hE _ _ _⟩
  exact main.frz fun _ _ x H' ⟨hx, hE⟩ _ => ⟨hE, x, .keep _ (hx.old _), hx⟩
end Go.Proofs.Ytooaiddfokbffaa.E

/- The reference's Exactly, of one term. Conditions: none. -/
set_option linter.unusedVariables false
set_option linter.unusedSimpArgs false
namespace Go.Proofs.Ytooaiddfokbffaa.E
open Go Go.Proofs
attribute [local go_sem] s_seq s_ops s_draw s_block s_skip s_ret s_exit i_nil i_cons i_run i_runG s_condQ c_true c_false aop ev_t ev_c updO_at updO_no upd_at t_normal t_ret t_exit b_normal b_ret b_exit a_some ac_v ac_agg ac_ptr ac_slc ac_ro ac_rop ac_fn new_next set_next argTm_zero argTm_succ argTm_nil ab_bool ab_uv beq_self_eq_true Option.some_beq_some Bool.not_not beq_iff_eq decide_true decide_false Bool.not_true Bool.not_false afld aload astore apack alen_str alen_ro alen_slc alen_nil new_get set_get ite_true ite_false Option.map_some Option.bind_some ibin isShift Nat.add_zero Nat.zero_add List.length_cons List.length_nil List.drop_zero List.drop_succ_cons List.take_succ_cons List.take_zero if_true if_false setL List.set_cons_zero List.set_cons_succ List.all_cons List.all_nil one_int one_bool one_str one_nil one_ptr one_slc one_ro one_rop one_fn Bool.and_self Bool.and_true true_and and_true and_self Bool.false_eq_true post_ret post_normal resAll resOne packR Option.some.injEq exists_eq_left' List.map_cons List.map_nil List.nil_append List.append_nil List.cons_append d_nil d_cons k_nil k_cons g_op g_same g_new avBlock forall_eq' List.getElem?_cons_succ List.getElem?_cons_zero List.getElem?_nil okind gOk bne false_imp_iff forall_const imp_self implies_true true_imp_iff i_callG

theorem aeqs_self (a b : Int) : aeqs [.int, .int] [aint a, aint b] [aint a, aint b] = some true := by simp [aeqs]
set_option maxRecDepth 100000 in
theorem exL_ok (l : Lv) (x y : AV) (xs ys : List AV) (h1 : SlR l.vars.length x xs) (h2 : VarsR l.vars xs) (g1 : SlR l.vars.length y ys) (g2 : VarsR l.vars ys) (hn : l.vars.length ≤ 4611686018427387904) (H : AHeap) :
    SCall Try.prog 80 [.agg [aint l.n, x], .agg [aint l.n, y]] H fun x H' => x = abl true ∧ H' = H := by
  refine SCall.val (SCall.intro mixed cf80 ?_)
  have e1 : ¬ H.next = H.next + 1 := by omega
  have e2 : ¬ H.next + 1 = H.next := by omega
  simp -implicitDefEqProofs only [c80, go_sem, Nat.reduceEqDiff, Nat.reduceAdd, Nat.reduceLeDiff, ↓reduceIte, reduceCtorEq, Int.reduceBEq, Int.reduceBNe, Int.reduceLT, Int.reduceLE, Int.reduceGT, Int.reduceGE, Int.reduceNeg, Int.reduceAdd, Int.reduceSub, Nat.reduceMul, Nat.reduceLT, Int.reduceToNat, h1.one, h1.cells, g1.one, g1.cells, e1, e2, fun H => h1.alen H, fun H => g1.alen H]
  refine swp_range l.vars.length (fun i st => st.tm 2 = .ptr H.next 0 ∧ st.tm 3 = .ptr (H.next + 1) 0 ∧ st.tm 5 = aint i ∧ Ext H st.heap ∧ st.heap.get H.next = some (.cells [aint l.n, x]) ∧ st.heap.get (H.next + 1) = some (.cells [aint l.n, y])) ?_ ?_ ?_
  · exact ⟨rfl, rfl, rfl, ((Ext.refl H).new _).new _, by simp -implicitDefEqProofs only [go_sem, Nat.reduceEqDiff, Nat.reduceAdd, Nat.reduceLeDiff, ↓reduceIte, reduceCtorEq, Int.reduceBEq, Int.reduceBNe, Int.reduceLT, Int.reduceLE, Int.reduceGT, Int.reduceGE, Int.reduceNeg, Int.reduceAdd, Int.reduceSub, Nat.reduceMul, Nat.reduceLT, Int.reduceToNat, e1], by simp -implicitDefEqProofs only [go_sem, Nat.reduceEqDiff, Nat.reduceAdd, Nat.reduceLeDiff, ↓reduceIte, reduceCtorEq, Int.reduceBEq, Int.reduceBNe, Int.reduceLT, Int.reduceLE, Int.reduceGT, Int.reduceGE, Int.reduceNeg, Int.reduceAdd, Int.reduceSub, Nat.reduceMul, Nat.reduceLT, Int.reduceToNat]⟩
  · rintro i ⟨tm, H2⟩ hi ⟨t2, t3, t5, hE, hg0, hg1⟩
    simp only at t2 t3 t5 hE hg0 hg1
    have hltI : (i : Int) < (l.vars.length : Int) := by omega
    have hix := h1.aix 2 hi
    have hix' := g1.aix 2 hi
    obtain ⟨hle, hld⟩ := h2.at hi
    obtain ⟨hle', hld'⟩ := g2.at hi
    have w3 : IntKind.i64.wrap ((i : Int) + 1) = (i : Int) + 1 := i64_ok _ (by omega)
    simp -implicitDefEqProofs only [go_sem, Nat.reduceEqDiff, Nat.reduceAdd, Nat.reduceLeDiff, ↓reduceIte, reduceCtorEq, Int.reduceBEq, Int.reduceBNe, Int.reduceLT, Int.reduceLE, Int.reduceGT, Int.reduceGE, Int.reduceNeg, Int.reduceAdd, Int.reduceSub, Nat.reduceMul, Nat.reduceLT, Int.reduceToNat, t2, t3, t5, hg0, hg1, fun H => h1.alen H, hltI, hix, hix', hle, hld, hle', hld', w3, aeqs_self]
    exact ⟨by simp, hE⟩
  · rintro ⟨tm, H2⟩ ⟨t2, t3, t5, hE, hg0, hg1⟩
    simp only at t2 t3 t5 hE hg0 hg1
    simp -implicitDefEqProofs only [go_sem, Nat.reduceEqDiff, Nat.reduceAdd, Nat.reduceLeDiff, ↓reduceIte, reduceCtorEq, Int.reduceBEq, Int.reduceBNe, Int.reduceLT, Int.reduceLE, Int.reduceGT, Int.reduceGE, Int.reduceNeg, Int.reduceAdd, Int.reduceSub, Nat.reduceMul, Nat.reduceLT, Int.reduceToNat, t2, t3, t5, hg0, fun H => h1.alen H, Int.lt_irrefl]
    exact hE

set_option maxRecDepth 100000 in
theorem exact_ok : ∀ t, Tm.All TmB t → ∀ (ac bc : List AV), TmR t ac → TmR t bc → ∀ (H : AHeap), SCall Try.prog 22 [.agg ac, .agg bc] H fun x H' => x = abl true ∧ H' = H := by
  refine Tm.rule fun f n hid s lv ks ih ha ac bc hA hB H => ?_
  obtain ⟨lx, kx, ls, cs, rfl, hl1, hl2, hk1, hk2⟩ := hA.six
  obtain ⟨lx', kx', ls', cs', rfl, hl1', hl2', hk1', hk2'⟩ := hB.six
  simp only [Tm.All, TmB, Tm.form, Tm.n, Tm.hid, Tm.name, Tm.lv, Tm.kids] at *
  obtain ⟨⟨_, _, a1, a2, a3, a4⟩, a5⟩ := ha
  refine SCall.val (SCall.intro mixed cf22 ?_)
  have e1 : ¬ H.next = H.next + 1 := by omega
  have e2 : ¬ H.next + 1 = H.next := by omega
  have lal : ∀ G, alen G .slice lx = some lv.length := fun G => hl1.alen G
  have lal' : ∀ G, alen G .slice lx' = some lv.length := fun G => hl1'.alen G
  have kal : ∀ G, alen G .slice kx = some ks.length := fun G => hk1.alen G
  have kal' : ∀ G, alen G .slice kx' = some ks.length := fun G => hk1'.alen G
  simp -implicitDefEqProofs only [c22, go_sem, Nat.reduceEqDiff, Nat.reduceAdd, Nat.reduceLeDiff, ↓reduceIte, reduceCtorEq, Int.reduceBEq, Int.reduceBNe, Int.reduceLT, Int.reduceLE, Int.reduceGT, Int.reduceGE, Int.reduceNeg, Int.reduceAdd, Int.reduceSub, Nat.reduceMul, Nat.reduceLT, Int.reduceToNat, hl1.one, hl1.cells, hk1.one, hk1.cells, hl1'.one, hl1'.cells, hk1'.one, hk1'.cells, e1, e2, lal, lal', kal, kal', sbin]
  refine swp_range lv.length (fun i st => st.tm 2 = .ptr H.next 0 ∧ st.tm 3 = .ptr (H.next + 1) 0 ∧ st.tm 5 = aint i ∧ Ext H st.heap ∧ st.heap.get H.next = some (.cells [aint f, aint n, abl hid, .v (.string s), lx, kx]) ∧ st.heap.get (H.next + 1) = some (.cells [aint f, aint n, abl hid, .v (.string s), lx', kx'])) ?_ ?_ ?_
  · exact ⟨rfl, rfl, rfl, ((Ext.refl H).new _).new _, by simp -implicitDefEqProofs only [go_sem, Nat.reduceEqDiff, Nat.reduceAdd, Nat.reduceLeDiff, ↓reduceIte, reduceCtorEq, Int.reduceBEq, Int.reduceBNe, Int.reduceLT, Int.reduceLE, Int.reduceGT, Int.reduceGE, Int.reduceNeg, Int.reduceAdd, Int.reduceSub, Nat.reduceMul, Nat.reduceLT, Int.reduceToNat, e1], by simp -implicitDefEqProofs only [go_sem, Nat.reduceEqDiff, Nat.reduceAdd, Nat.reduceLeDiff, ↓reduceIte, reduceCtorEq, Int.reduceBEq, Int.reduceBNe, Int.reduceLT, Int.reduceLE, Int.reduceGT, Int.reduceGE, Int.reduceNeg, Int.reduceAdd, Int.reduceSub, Nat.reduceMul, Nat.reduceLT, Int.reduceToNat]⟩
  · rintro i ⟨tm, H2⟩ hi ⟨t2, t3, t5, hE, hg0, hg1⟩
    simp only at t2 t3 t5 hE hg0 hg1
    have hltI : (i : Int) < (lv.length : Int) := by omega
    have hix := hl1.aix 2 hi
    have hix' := hl1'.aix 2 hi
    obtain ⟨vx, vs, hle, hld, hv1, hv2⟩ := hl2.at (List.getElem?_eq_getElem hi)
    obtain ⟨wx, ws, hle', hld', hw1, hw2⟩ := hl2'.at (List.getElem?_eq_getElem hi)
    have w3 : IntKind.i64.wrap ((i : Int) + 1) = (i : Int) + 1 := i64_ok _ (by omega)
    have hb := (a4 _ (List.getElem_mem hi)).2.1
    simp -implicitDefEqProofs only [go_sem, Nat.reduceEqDiff, Nat.reduceAdd, Nat.reduceLeDiff, ↓reduceIte, reduceCtorEq, Int.reduceBEq, Int.reduceBNe, Int.reduceLT, Int.reduceLE, Int.reduceGT, Int.reduceGE, Int.reduceNeg, Int.reduceAdd, Int.reduceSub, Nat.reduceMul, Nat.reduceLT, Int.reduceToNat, t2, t3, t5, hg0, hg1, lal, hltI, hix, hix', hle, hld, hle', hld', hv1.one, hv1.cells, hw1.one, hw1.cells]
    refine i_callA (fs := []) (cs := []) (fid := 80) ?_ ?_ (exL_ok lv[i] vx wx vs ws hv1 hv2 hw1 hw2 (by omega) _) ?_
    · rfl
    · simp -implicitDefEqProofs only [go_sem, Nat.reduceEqDiff, Nat.reduceAdd, Nat.reduceLeDiff, ↓reduceIte, reduceCtorEq, Int.reduceBEq, Int.reduceBNe, Int.reduceLT, Int.reduceLE, Int.reduceGT, Int.reduceGE, Int.reduceNeg, Int.reduceAdd, Int.reduceSub, Nat.reduceMul, Nat.reduceLT, Int.reduceToNat]
    rintro x H3 ⟨rfl, rfl⟩
    simp -implicitDefEqProofs only [go_sem, Nat.reduceEqDiff, Nat.reduceAdd, Nat.reduceLeDiff, ↓reduceIte, reduceCtorEq, Int.reduceBEq, Int.reduceBNe, Int.reduceLT, Int.reduceLE, Int.reduceGT, Int.reduceGE, Int.reduceNeg, Int.reduceAdd, Int.reduceSub, Nat.reduceMul, Nat.reduceLT, Int.reduceToNat, t2, t3, t5, hg0, hg1, lal, hltI, hix, hix', hle, hld, hle', hld', hv1.one, hv1.cells, hw1.one, hw1.cells, w3]
    exact ⟨by simp, hE⟩
  · rintro ⟨tm, H2⟩ ⟨t2, t3, t5, hE, hg0, hg1⟩
    simp only at t2 t3 t5 hE hg0 hg1
    simp -implicitDefEqProofs only [go_sem, Nat.reduceEqDiff, Nat.reduceAdd, Nat.reduceLeDiff, ↓reduceIte, reduceCtorEq, Int.reduceBEq, Int.reduceBNe, Int.reduceLT, Int.reduceLE, Int.reduceGT, Int.reduceGE, Int.reduceNeg, Int.reduceAdd, Int.reduceSub, Nat.reduceMul, Nat.reduceLT, Int.reduceToNat, t2, t3, t5, hg0, lal, Int.lt_irrefl]
    refine swp_range ks.length (fun i st => st.tm 2 = .ptr H.next 0 ∧ st.tm 3 = .ptr (H.next + 1) 0 ∧ st.tm 7 = aint i ∧ Ext H st.heap ∧ st.heap.get H.next = some (.cells [aint f, aint n, abl hid, .v (.string s), lx, kx]) ∧ st.heap.get (H.next + 1) = some (.cells [aint f, aint n, abl hid, .v (.string s), lx', kx'])) ?_ ?_ ?_
    · refine ⟨?_, ?_, rfl, hE, hg0, hg1⟩
      all_goals simp -implicitDefEqProofs only [go_sem, Nat.reduceEqDiff, Nat.reduceAdd, Nat.reduceLeDiff, ↓reduceIte, reduceCtorEq, Int.reduceBEq, Int.reduceBNe, Int.reduceLT, Int.reduceLE, Int.reduceGT, Int.reduceGE, Int.reduceNeg, Int.reduceAdd, Int.reduceSub, Nat.reduceMul, Nat.reduceLT, Int.reduceToNat, t2, t3]
    · rintro i ⟨tm, H5⟩ hi ⟨t2, t3, t7, hE, hg0, hg1⟩
      simp only at t2 t3 t7 hE hg0 hg1
      have hltI : (i : Int) < (ks.length : Int) := by omega
      have hix := hk1.aix 6 hi
      have hix' := hk1'.aix 6 hi
      obtain ⟨kc, hkc, hle, hld⟩ := hk2.load (List.getElem?_eq_getElem hi)
      obtain ⟨kc', hkc', hle', hld'⟩ := hk2'.load (List.getElem?_eq_getElem hi)
      have w3 : IntKind.i64.wrap ((i : Int) + 1) = (i : Int) + 1 := i64_ok _ (by omega)
      have hkm := List.getElem_mem hi
      simp -implicitDefEqProofs only [go_sem, Nat.reduceEqDiff, Nat.reduceAdd, Nat.reduceLeDiff, ↓reduceIte, reduceCtorEq, Int.reduceBEq, Int.reduceBNe, Int.reduceLT, Int.reduceLE, Int.reduceGT, Int.reduceGE, Int.reduceNeg, Int.reduceAdd, Int.reduceSub, Nat.reduceMul, Nat.reduceLT, Int.reduceToNat, t2, t3, t7, hg0, hg1, kal, hltI, hix, hix', hle, hld, hle', hld']
      refine i_callA (fs := []) (cs := []) (fid := 22) ?_ ?_ (ih ks[i] hkm (a5.mem _ hkm) _ _ hkc hkc' _) ?_
      · rfl
      · simp -implicitDefEqProofs only [go_sem, Nat.reduceEqDiff, Nat.reduceAdd, Nat.reduceLeDiff, ↓reduceIte, reduceCtorEq, Int.reduceBEq, Int.reduceBNe, Int.reduceLT, Int.reduceLE, Int.reduceGT, Int.reduceGE, Int.reduceNeg, Int.reduceAdd, Int.reduceSub, Nat.reduceMul, Nat.reduceLT, Int.reduceToNat]
      rintro x H3 ⟨rfl, rfl⟩
      simp -implicitDefEqProofs only [go_sem, Nat.reduceEqDiff, Nat.reduceAdd, Nat.reduceLeDiff, ↓reduceIte, reduceCtorEq, Int.reduceBEq, Int.reduceBNe, Int.reduceLT, Int.reduceLE, Int.reduceGT, Int.reduceGE, Int.reduceNeg, Int.reduceAdd, Int.reduceSub, Nat.reduceMul, Nat.reduceLT, Int.reduceToNat, t2, t3, t7, hg0, hg1, kal, hltI, hix, hix', hle, hld, hle', hld', w3]
      exact ⟨by simp, hE⟩
    · rintro ⟨tm, H5⟩ ⟨t2, t3, t7, hE, hg0, hg1⟩
      simp only at t2 t3 t7 hE hg0 hg1
      simp -implicitDefEqProofs only [go_sem, Nat.reduceEqDiff, Nat.reduceAdd, Nat.reduceLeDiff, ↓reduceIte, reduceCtorEq, Int.reduceBEq, Int.reduceBNe, Int.reduceLT, Int.reduceLE, Int.reduceGT, Int.reduceGE, Int.reduceNeg, Int.reduceAdd, Int.reduceSub, Nat.reduceMul, Nat.reduceLT, Int.reduceToNat, t2, t3, t7, hg0, kal, Int.lt_irrefl]
      exact hE
end Go.Proofs.Ytooaiddfokbffaa.E

/- The law TermLifts, walked. Conditions: none. -/
set_option linter.unusedVariables false
set_option linter.unusedSimpArgs false
namespace Go.Proofs.Ytooaiddfokbffaa.E
open Go Go.Proofs
attribute [local go_sem] s_seq s_ops s_draw s_block s_skip s_ret s_exit i_nil i_cons i_run i_runG s_condQ c_true c_false aop ev_t ev_c updO_at updO_no upd_at t_normal t_ret t_exit b_normal b_ret b_exit a_some ac_v ac_agg ac_ptr ac_slc ac_ro ac_rop ac_fn new_next set_next argTm_zero argTm_succ argTm_nil ab_bool ab_uv beq_self_eq_true Option.some_beq_some Bool.not_not beq_iff_eq decide_true decide_false Bool.not_true Bool.not_false afld aload astore apack alen_str alen_ro alen_slc alen_nil new_get set_get ite_true ite_false Option.map_some Option.bind_some ibin isShift Nat.add_zero Nat.zero_add List.length_cons List.length_nil List.drop_zero List.drop_succ_cons List.take_succ_cons List.take_zero if_true if_false setL List.set_cons_zero List.set_cons_succ List.all_cons List.all_nil one_int one_bool one_str one_nil one_ptr one_slc one_ro one_rop one_fn Bool.and_self Bool.and_true true_and and_true and_self Bool.false_eq_true post_ret post_normal resAll resOne packR Option.some.injEq exists_eq_left' List.map_cons List.map_nil List.nil_append List.append_nil List.cons_append d_nil d_cons k_nil k_cons g_op g_same g_new avBlock forall_eq' List.getElem?_cons_succ List.getElem?_cons_zero List.getElem?_nil okind gOk bne false_imp_iff forall_const imp_self implies_true true_imp_iff i_callG

theorem lent_wf {t : Tm} {c : List AV} (h : LentR t c) (ho : ∀ y ∈ c, Old 0 y) : TmP t c := ⟨LentR.tm t c h, ho⟩
theorem lift_tmb (fr by_ : Int) (t : Tm) (ha : Tm.All TmB t) : Tm.All TmB (LiftF fr by_ t).1 := by
  unfold LiftF
  split
  · exact tmb_zero
  rename_i hc
  split
  · exact tmb_zero
  unfold toldF
  split
  · exact tmb_zero
  · rename_i h1 h2
    have hc' : checkF canF t = 0 := by
      rcases Classical.em (checkF canF t = 0) with h | h
      · exact h
      · exact absurd h hc
    exact tmb_clean _ (rawLift_tmb (by omega) ha (check_vn ha hc'))

set_option maxRecDepth 100000 in
theorem law_lifts (t : Tm) (ht : Tm.All TmB t) (tc : List AV) (hT : TmR t tc) (ot : ∀ y ∈ tc, Old 0 y) (fr : Int) (hr1 : Rng fr) (by_ : Int) (hr2 : Rng by_) (H : AHeap) :
    SCall Try.prog 3 [.agg tc, aint fr, aint by_] H fun x H' => x = abl true ∧ H' = H := by
  have hTP := tmp_of hT ot
  have hT' := hT
  obtain ⟨lx, kx, ls, cs, rfl, hl1, hl2, hk1, hk2⟩ := hT.six
  have p1 := hl1.one
  have p2 := hl1.cells
  have p3 := hk1.one
  have p4 := hk1.cells
  refine SCall.val (SCall.intro mixed cf3 ?_)
  simp -implicitDefEqProofs only [c3, go_sem, Nat.reduceEqDiff, Nat.reduceAdd, Nat.reduceLeDiff, ↓reduceIte, reduceCtorEq, Int.reduceBEq, Int.reduceBNe, Int.reduceLT, Int.reduceLE, Int.reduceGT, Int.reduceGE, Int.reduceNeg, Int.reduceAdd, Int.reduceSub, Nat.reduceMul, Nat.reduceLT, Int.reduceToNat, p1, p2, p3, p4]
  refine i_callA (fs := []) (cs := []) ?_ ?_ (alive2_ok _) ?_
  · rfl
  · simp -implicitDefEqProofs only [go_sem, Nat.reduceEqDiff, Nat.reduceAdd, Nat.reduceLeDiff, ↓reduceIte, reduceCtorEq, Int.reduceBEq, Int.reduceBNe, Int.reduceLT, Int.reduceLE, Int.reduceGT, Int.reduceGE, Int.reduceNeg, Int.reduceAdd, Int.reduceSub, Nat.reduceMul, Nat.reduceLT, Int.reduceToNat]
  rintro x H3 ⟨rfl, rfl⟩
  simp -implicitDefEqProofs only [go_sem, Nat.reduceEqDiff, Nat.reduceAdd, Nat.reduceLeDiff, ↓reduceIte, reduceCtorEq, Int.reduceBEq, Int.reduceBNe, Int.reduceLT, Int.reduceLE, Int.reduceGT, Int.reduceGE, Int.reduceNeg, Int.reduceAdd, Int.reduceSub, Nat.reduceMul, Nat.reduceLT, Int.reduceToNat, p1, p2, p3, p4]
  refine i_callA (fs := []) (cs := []) ?_ ?_ (big_ok t ht _ hT' _) ?_
  · rfl
  · simp -implicitDefEqProofs only [go_sem, Nat.reduceEqDiff, Nat.reduceAdd, Nat.reduceLeDiff, ↓reduceIte, reduceCtorEq, Int.reduceBEq, Int.reduceBNe, Int.reduceLT, Int.reduceLE, Int.reduceGT, Int.reduceGE, Int.reduceNeg, Int.reduceAdd, Int.reduceSub, Nat.reduceMul, Nat.reduceLT, Int.reduceToNat]
  rintro x H3 ⟨rfl, rfl⟩
  cases h1 : bigF t with
  | true =>
    simp -implicitDefEqProofs only [go_sem, Nat.reduceEqDiff, Nat.reduceAdd, Nat.reduceLeDiff, ↓reduceIte, reduceCtorEq, Int.reduceBEq, Int.reduceBNe, Int.reduceLT, Int.reduceLE, Int.reduceGT, Int.reduceGE, Int.reduceNeg, Int.reduceAdd, Int.reduceSub, Nat.reduceMul, Nat.reduceLT, Int.reduceToNat, p1, p2, p3, p4]
    exact (Ext.refl H).new _
  | false =>
  obtain ⟨hsm, zt, gt⟩ := big_small h1
  simp -implicitDefEqProofs only [go_sem, Nat.reduceEqDiff, Nat.reduceAdd, Nat.reduceLeDiff, ↓reduceIte, reduceCtorEq, Int.reduceBEq, Int.reduceBNe, Int.reduceLT, Int.reduceLE, Int.reduceGT, Int.reduceGE, Int.reduceNeg, Int.reduceAdd, Int.reduceSub, Nat.reduceMul, Nat.reduceLT, Int.reduceToNat, p1, p2, p3, p4]
  refine i_callA (fs := []) (cs := []) ?_ ?_ (lent_ok t hsm _ hT' ot _) ?_
  · rfl
  · simp -implicitDefEqProofs only [go_sem, Nat.reduceEqDiff, Nat.reduceAdd, Nat.reduceLeDiff, ↓reduceIte, reduceCtorEq, Int.reduceBEq, Int.reduceBNe, Int.reduceLT, Int.reduceLE, Int.reduceGT, Int.reduceGE, Int.reduceNeg, Int.reduceAdd, Int.reduceSub, Nat.reduceMul, Nat.reduceLT, Int.reduceToNat]
  rintro x H3 ⟨⟨fc, rfl, hf1, hf2⟩, hHH⟩
  have hHH := hHH.symm
  subst hHH
  have hFP := lent_wf hf1 hf2
  obtain ⟨fl, fk, hc6, f1, f2, f3, f4, f5, f6, f7, f8⟩ := hFP.six
  subst hc6
  have e1 : ¬ H.next = H.next + 1 := by omega
  have e2 : ¬ H.next + 1 = H.next := by omega
  simp -implicitDefEqProofs only [go_sem, Nat.reduceEqDiff, Nat.reduceAdd, Nat.reduceLeDiff, ↓reduceIte, reduceCtorEq, Int.reduceBEq, Int.reduceBNe, Int.reduceLT, Int.reduceLE, Int.reduceGT, Int.reduceGE, Int.reduceNeg, Int.reduceAdd, Int.reduceSub, Nat.reduceMul, Nat.reduceLT, Int.reduceToNat, p1, p2, p3, p4, f1, f2, f3, f4, e1, e2]
  generalize hG0 : ((H.new (.cells [aint t.form, aint t.n, abl t.hid, .v (.string t.name), lx, kx])).new (.cells z6)).set (H.next + 1) (.cells [aint t.form, aint t.n, abl t.hid, .v (.string t.name), fl, fk]) = G0
  have hE : Ext H G0 := by rw [← hG0]; exact ((((Ext.refl H).new _).new _).set (by omega) _)
  have at3 : At G0 H.next (.cells [aint t.form, aint t.n, abl t.hid, .v (.string t.name), lx, kx]) := ⟨by rw [← hG0]; simp -implicitDefEqProofs only [go_sem, Nat.reduceEqDiff, Nat.reduceAdd, Nat.reduceLeDiff, ↓reduceIte, reduceCtorEq, Int.reduceBEq, Int.reduceBNe, Int.reduceLT, Int.reduceLE, Int.reduceGT, Int.reduceGE, Int.reduceNeg, Int.reduceAdd, Int.reduceSub, Nat.reduceMul, Nat.reduceLT, Int.reduceToNat, e1], by rw [← hG0]; simp only [set_next, new_next]; omega⟩
  have at9 : At G0 (H.next + 1) (.cells [aint t.form, aint t.n, abl t.hid, .v (.string t.name), fl, fk]) := ⟨by rw [← hG0]; simp -implicitDefEqProofs only [go_sem, Nat.reduceEqDiff, Nat.reduceAdd, Nat.reduceLeDiff, ↓reduceIte, reduceCtorEq, Int.reduceBEq, Int.reduceBNe, Int.reduceLT, Int.reduceLE, Int.reduceGT, Int.reduceGE, Int.reduceNeg, Int.reduceAdd, Int.reduceSub, Nat.reduceMul, Nat.reduceLT, Int.reduceToNat], by rw [← hG0]; simp only [set_next, new_next]; omega⟩
  clear hG0
  refine i_callA (fs := []) (cs := []) ?_ ?_ (Lift_ok fr by_ hr1 hr2 t ht (by omega) (by omega) _ hFP _) ?_
  · rfl
  · simp -implicitDefEqProofs only [go_sem, Nat.reduceEqDiff, Nat.reduceAdd, Nat.reduceLeDiff, ↓reduceIte, reduceCtorEq, Int.reduceBEq, Int.reduceBNe, Int.reduceLT, Int.reduceLE, Int.reduceGT, Int.reduceGE, Int.reduceNeg, Int.reduceAdd, Int.reduceSub, Nat.reduceMul, Nat.reduceLT, Int.reduceToNat]
  rintro x H3 ⟨⟨c, rfl, hca⟩, hHH⟩
  have hHH := hHH.symm
  subst hHH
  have hba := lift_tmb fr by_ t ht
  generalize hra : (LiftF fr by_ t).1 = ra at *
  generalize hre : (LiftF fr by_ t).2 = re at *
  obtain ⟨axa, bxa, hx6, k1a, k2a, k3a, k4a, _⟩ := hca.six
  subst hx6
  simp -implicitDefEqProofs only [go_sem, Nat.reduceEqDiff, Nat.reduceAdd, Nat.reduceLeDiff, ↓reduceIte, reduceCtorEq, Int.reduceBEq, Int.reduceBNe, Int.reduceLT, Int.reduceLE, Int.reduceGT, Int.reduceGE, Int.reduceNeg, Int.reduceAdd, Int.reduceSub, Nat.reduceMul, Nat.reduceLT, Int.reduceToNat, p1, p2, p3, p4, f1, f2, f3, f4, e1, e2, at3.1, Nat.ne_of_lt at3.2, at9.1, Nat.ne_of_lt at9.2, k1a, k2a, k3a, k4a]
  have hX : Ext G0 ((G0.new (.cells z6)).set G0.next (.cells [aint ra.form, aint ra.n, abl ra.hid, .v (.string ra.name), axa, bxa])) := Ext.put1 _ _ _
  have at10 : At ((G0.new (.cells z6)).set G0.next (.cells [aint ra.form, aint ra.n, abl ra.hid, .v (.string ra.name), axa, bxa])) G0.next (.cells [aint ra.form, aint ra.n, abl ra.hid, .v (.string ra.name), axa, bxa]) := At.put _ _ _
  have at3 := at3.ext hX
  have at9 := at9.ext hX
  have hE := hE.trans hX
  clear hX
  generalize hb10 : G0.next = b10 at *
  generalize (G0.new (.cells z6)).set b10 (.cells [aint ra.form, aint ra.n, abl ra.hid, .v (.string ra.name), axa, bxa]) = G1 at *
  refine i_callA (fs := []) (cs := []) ?_ ?_ (LiftU_ok t ht (by omega) (by omega) _ hTP _) ?_
  · rfl
  · simp -implicitDefEqProofs only [go_sem, Nat.reduceEqDiff, Nat.reduceAdd, Nat.reduceLeDiff, ↓reduceIte, reduceCtorEq, Int.reduceBEq, Int.reduceBNe, Int.reduceLT, Int.reduceLE, Int.reduceGT, Int.reduceGE, Int.reduceNeg, Int.reduceAdd, Int.reduceSub, Nat.reduceMul, Nat.reduceLT, Int.reduceToNat]
  rintro x G2 ⟨⟨rb, c, eb, rfl, hbb, hob⟩, hX2⟩
  obtain ⟨axb, bxb, hx6, k1b, k2b, k3b, k4b, _⟩ := hob.six
  subst hx6
  have at3g := at3.2
  have at3 := at3.ext hX2
  have at9g := at9.2
  have at9 := at9.ext hX2
  have at10g := at10.2
  have at10 := at10.ext hX2
  have hE := hE.trans hX2
  clear hX2
  simp -implicitDefEqProofs only [go_sem, Nat.reduceEqDiff, Nat.reduceAdd, Nat.reduceLeDiff, ↓reduceIte, reduceCtorEq, Int.reduceBEq, Int.reduceBNe, Int.reduceLT, Int.reduceLE, Int.reduceGT, Int.reduceGE, Int.reduceNeg, Int.reduceAdd, Int.reduceSub, Nat.reduceMul, Nat.reduceLT, Int.reduceToNat, p1, p2, p3, p4, f1, f2, f3, f4, e1, e2, at3.1, Nat.ne_of_lt at3.2, at9.1, Nat.ne_of_lt at9.2, at10.1, Nat.ne_of_lt at10.2, k1a, k2a, k3a, k4a, k1b, k2b, k3b, k4b]
  have hX : Ext G2 ((G2.new (.cells z6)).set G2.next (.cells [aint rb.form, aint rb.n, abl rb.hid, .v (.string rb.name), axb, bxb])) := Ext.put1 _ _ _
  have at12 : At ((G2.new (.cells z6)).set G2.next (.cells [aint rb.form, aint rb.n, abl rb.hid, .v (.string rb.name), axb, bxb])) G2.next (.cells [aint rb.form, aint rb.n, abl rb.hid, .v (.string rb.name), axb, bxb]) := At.put _ _ _
  have at3 := at3.ext hX
  have at9 := at9.ext hX
  have at10 := at10.ext hX
  have hE := hE.trans hX
  have hob := hob.frame (G := (G2.new (.cells z6)).set G2.next (.cells [aint rb.form, aint rb.n, abl rb.hid, .v (.string rb.name), axb, bxb])) fun b q1 q2 => hX.2 b q2
  clear hX
  have hG23 : G2.next ≤ ((G2.new (.cells z6)).set G2.next (.cells [aint rb.form, aint rb.n, abl rb.hid, .v (.string rb.name), axb, bxb])).next := by simp only [set_next, new_next]; omega
  generalize hb12 : G2.next = b12 at *
  generalize (G2.new (.cells z6)).set b12 (.cells [aint rb.form, aint rb.n, abl rb.hid, .v (.string rb.name), axb, bxb]) = G3 at *
  refine i_callA (fs := []) (cs := []) (fid := 18) ?_ ?_ (wipe_ok rb (tmb_lb hbb) G1.next b12 _ G3 hob hG23) ?_
  · rfl
  · simp -implicitDefEqProofs only [go_sem, Nat.reduceEqDiff, Nat.reduceAdd, Nat.reduceLeDiff, ↓reduceIte, reduceCtorEq, Int.reduceBEq, Int.reduceBNe, Int.reduceLT, Int.reduceLE, Int.reduceGT, Int.reduceGE, Int.reduceNeg, Int.reduceAdd, Int.reduceSub, Nat.reduceMul, Nat.reduceLT, Int.reduceToNat]
  rintro x G4 ⟨hn4, ho4⟩
  have hXW : ∀ b, b < H.next + 0 → G4.get b = G3.get b := fun b hb => ho4 b (by have := hE.1; omega) (by have := at3g; omega)
  have hE : Ext H G4 := ⟨by have := hE.1; omega, fun b hb => (hXW b (by omega)).trans (hE.2 b hb)⟩
  have at3 : At G4 _ _ := ⟨(ho4 _ at3.2 (by have := at3g; omega)).trans at3.1, Nat.lt_of_lt_of_le at3.2 hn4⟩
  have at9 : At G4 _ _ := ⟨(ho4 _ at9.2 (by have := at9g; omega)).trans at9.1, Nat.lt_of_lt_of_le at9.2 hn4⟩
  have at10 : At G4 _ _ := ⟨(ho4 _ at10.2 (by have := at10g; omega)).trans at10.1, Nat.lt_of_lt_of_le at10.2 hn4⟩
  clear at12
  simp -implicitDefEqProofs only [go_sem, Nat.reduceEqDiff, Nat.reduceAdd, Nat.reduceLeDiff, ↓reduceIte, reduceCtorEq, Int.reduceBEq, Int.reduceBNe, Int.reduceLT, Int.reduceLE, Int.reduceGT, Int.reduceGE, Int.reduceNeg, Int.reduceAdd, Int.reduceSub, Nat.reduceMul, Nat.reduceLT, Int.reduceToNat, p1, p2, p3, p4, f1, f2, f3, f4, e1, e2, at3.1, Nat.ne_of_lt at3.2, at9.1, Nat.ne_of_lt at9.2, at10.1, Nat.ne_of_lt at10.2, k1a, k2a, k3a, k4a]
  refine i_callA (fs := []) (cs := []) ?_ ?_ (Lift2_ok fr by_ hr1 hr2 t ht (by omega) (by omega) _ hTP _) ?_
  · rfl
  · simp -implicitDefEqProofs only [go_sem, Nat.reduceEqDiff, Nat.reduceAdd, Nat.reduceLeDiff, ↓reduceIte, reduceCtorEq, Int.reduceBEq, Int.reduceBNe, Int.reduceLT, Int.reduceLE, Int.reduceGT, Int.reduceGE, Int.reduceNeg, Int.reduceAdd, Int.reduceSub, Nat.reduceMul, Nat.reduceLT, Int.reduceToNat]
  rintro x H3 ⟨⟨c, rfl, hcw⟩, hHH⟩
  have hHH := hHH.symm
  subst hHH
  rw [hra, hre] at *
  obtain ⟨axw, bxw, hx6, k1w, k2w, k3w, k4w, _⟩ := hcw.six
  subst hx6
  simp -implicitDefEqProofs only [go_sem, Nat.reduceEqDiff, Nat.reduceAdd, Nat.reduceLeDiff, ↓reduceIte, reduceCtorEq, Int.reduceBEq, Int.reduceBNe, Int.reduceLT, Int.reduceLE, Int.reduceGT, Int.reduceGE, Int.reduceNeg, Int.reduceAdd, Int.reduceSub, Nat.reduceMul, Nat.reduceLT, Int.reduceToNat, p1, p2, p3, p4, f1, f2, f3, f4, e1, e2, at3.1, Nat.ne_of_lt at3.2, at9.1, Nat.ne_of_lt at9.2, at10.1, Nat.ne_of_lt at10.2, k1a, k2a, k3a, k4a, k1w, k2w, k3w, k4w]
  have hX : Ext G4 ((G4.new (.cells z6)).set G4.next (.cells [aint ra.form, aint ra.n, abl ra.hid, .v (.string ra.name), axw, bxw])) := Ext.put1 _ _ _
  have at14 : At ((G4.new (.cells z6)).set G4.next (.cells [aint ra.form, aint ra.n, abl ra.hid, .v (.string ra.name), axw, bxw])) G4.next (.cells [aint ra.form, aint ra.n, abl ra.hid, .v (.string ra.name), axw, bxw]) := At.put _ _ _
  have at3 := at3.ext hX
  have at9 := at9.ext hX
  have at10 := at10.ext hX
  have hE := hE.trans hX
  clear hX
  generalize hb14 : G4.next = b14 at *
  generalize (G4.new (.cells z6)).set b14 (.cells [aint ra.form, aint ra.n, abl ra.hid, .v (.string ra.name), axw, bxw]) = G5 at *
  refine i_callA (fs := []) (cs := []) ?_ ?_ (stay_ok t hsm _ _ hf1 hT' _) ?_
  · rfl
  · simp -implicitDefEqProofs only [go_sem, Nat.reduceEqDiff, Nat.reduceAdd, Nat.reduceLeDiff, ↓reduceIte, reduceCtorEq, Int.reduceBEq, Int.reduceBNe, Int.reduceLT, Int.reduceLE, Int.reduceGT, Int.reduceGE, Int.reduceNeg, Int.reduceAdd, Int.reduceSub, Nat.reduceMul, Nat.reduceLT, Int.reduceToNat]
  rintro x H3 ⟨rfl, hHH⟩
  have hHH := hHH.symm
  subst hHH
  simp -implicitDefEqProofs only [go_sem, Nat.reduceEqDiff, Nat.reduceAdd, Nat.reduceLeDiff, ↓reduceIte, reduceCtorEq, Int.reduceBEq, Int.reduceBNe, Int.reduceLT, Int.reduceLE, Int.reduceGT, Int.reduceGE, Int.reduceNeg, Int.reduceAdd, Int.reduceSub, Nat.reduceMul, Nat.reduceLT, Int.reduceToNat, p1, p2, p3, p4, f1, f2, f3, f4, e1, e2, at3.1, Nat.ne_of_lt at3.2, at9.1, Nat.ne_of_lt at9.2, at10.1, Nat.ne_of_lt at10.2, at14.1, Nat.ne_of_lt at14.2, k1a, k2a, k3a, k4a, k1w, k2w, k3w, k4w]
  refine i_callA (fs := []) (cs := []) ?_ ?_ (num2_ok re _) ?_
  · rfl
  · simp -implicitDefEqProofs only [go_sem, Nat.reduceEqDiff, Nat.reduceAdd, Nat.reduceLeDiff, ↓reduceIte, reduceCtorEq, Int.reduceBEq, Int.reduceBNe, Int.reduceLT, Int.reduceLE, Int.reduceGT, Int.reduceGE, Int.reduceNeg, Int.reduceAdd, Int.reduceSub, Nat.reduceMul, Nat.reduceLT, Int.reduceToNat]
  rintro x H3 ⟨rfl, hHH⟩
  have hHH := hHH.symm
  subst hHH
  simp -implicitDefEqProofs only [go_sem, Nat.reduceEqDiff, Nat.reduceAdd, Nat.reduceLeDiff, ↓reduceIte, reduceCtorEq, Int.reduceBEq, Int.reduceBNe, Int.reduceLT, Int.reduceLE, Int.reduceGT, Int.reduceGE, Int.reduceNeg, Int.reduceAdd, Int.reduceSub, Nat.reduceMul, Nat.reduceLT, Int.reduceToNat, p1, p2, p3, p4, f1, f2, f3, f4, e1, e2, at3.1, Nat.ne_of_lt at3.2, at9.1, Nat.ne_of_lt at9.2, at10.1, Nat.ne_of_lt at10.2, at14.1, Nat.ne_of_lt at14.2, k1a, k2a, k3a, k4a, k1w, k2w, k3w, k4w, BEq.rfl]
  refine i_callA (fs := []) (cs := []) ?_ ?_ (exact_ok ra hba _ _ hca.1 hcw.1 _) ?_
  · rfl
  · simp -implicitDefEqProofs only [go_sem, Nat.reduceEqDiff, Nat.reduceAdd, Nat.reduceLeDiff, ↓reduceIte, reduceCtorEq, Int.reduceBEq, Int.reduceBNe, Int.reduceLT, Int.reduceLE, Int.reduceGT, Int.reduceGE, Int.reduceNeg, Int.reduceAdd, Int.reduceSub, Nat.reduceMul, Nat.reduceLT, Int.reduceToNat]
  rintro x H3 ⟨rfl, hHH⟩
  have hHH := hHH.symm
  subst hHH
  simp -implicitDefEqProofs only [go_sem, Nat.reduceEqDiff, Nat.reduceAdd, Nat.reduceLeDiff, ↓reduceIte, reduceCtorEq, Int.reduceBEq, Int.reduceBNe, Int.reduceLT, Int.reduceLE, Int.reduceGT, Int.reduceGE, Int.reduceNeg, Int.reduceAdd, Int.reduceSub, Nat.reduceMul, Nat.reduceLT, Int.reduceToNat, p1, p2, p3, p4, f1, f2, f3, f4, e1, e2, at3.1, Nat.ne_of_lt at3.2, at9.1, Nat.ne_of_lt at9.2, at10.1, Nat.ne_of_lt at10.2, at14.1, Nat.ne_of_lt at14.2, k1a, k2a, k3a, k4a, k1w, k2w, k3w, k4w, BEq.rfl]
  exact hE
end Go.Proofs.Ytooaiddfokbffaa.E

/- The row TermLifts: whatever the input, the law answers true. Conditions: none. -/
set_option linter.unusedVariables false
set_option linter.unusedSimpArgs false
namespace Go.Proofs.Ytooaiddfokbffaa.termLifts
open Go.ChangeShapes Go.WideShapes Go.ChangeAt Go.RowKit
open Go.ChangeMaps (open_string shut_string)
set_option maxRecDepth 100000 in
theorem lifted (os : Os) (started : os.Started) (H : Type) (enc : TypeId × Value → H) :
    ReturnsInHanded {} Try.checked os 3 .any (Rows.termLiftsSpec.pre6 enc Try.prog Try.f3 Rows.termLiftsRow.domain false) (Rows.termLiftsSpec.post enc Try.prog Try.f3 false true false false) := by
  refine returnsInHanded_of_change_sized (C := Try.checked) E.own started (by kernel_rfl) Try.func3
    (ChangeSpec.witness6 (enc := enc) (C := Try.checked) false ⟨#[], #[.agg #[.int .i64 0, .int .i64 0, .bool false, .string ByteArray.empty, .slice none 0 0, .slice none 0 0], .int .i64 0, .int .i64 0], []⟩ 8 (by kernel_rfl) (by kernel_rfl) (by kernel_rfl) (by kernel_rfl)) ?_
  intro W base args ds gs before hval0 hW hcnd hsz0 _
  have hsz : (DataW.weightsEach Try.prog (Try.f3.params.toList ++ Rows.termLiftsSpec.plain.varTypes Try.prog) (ds ++ gs)).all (· ≤ reachBytes) = true := hsz0
  have hval : ∀ (j : Nat) t v, Try.f3.params[j]? = some t → args[j]? = some v → Value.okWide Try.prog W .any base t v := hval0
  have hW' := hW
  obtain ⟨p, q, hA0, hV, rfl, hfz, hnd⟩ := hW
  have hA : DataW.TrodAll enc Try.prog W 0 (fun _ => true) true Try.f3.params.toList args.toList ds p := hA0
  rw [Try.params3] at hA hval hsz
  obtain ⟨v0, vs0, d0, ds0, p0, q0, hargs, rfl, rfl, h0, r0⟩ := trodAll_cons hA
  obtain ⟨v1, vs1, d1, ds1, p1, q1, rfl, rfl, rfl, h1, r1⟩ := trodAll_cons r0
  obtain ⟨v2, vs2, d2, ds2, p2, q2, rfl, rfl, rfl, h2, r2⟩ := trodAll_cons r1
  obtain ⟨rfl, rfl, rfl⟩ := trodAll_nil r2
  obtain rfl : args = #[v0, v1, v2] := by cases args; simp_all
  obtain ⟨rfl, rfl⟩ := trodVars_none hV
  have k0 := h0
  have lt0 : ∀ x ∈ p0, x.block < W.heap.size := by obtain ⟨m, hm⟩ := k0; exact DataW.trod_lt m _ _ _ hm
  obtain ⟨t0, y0, b0, c0, o0, w0⟩ := E.term_arg h0 (E.wt_arg hsz (j := 0) (t := 25) rfl rfl)
  obtain ⟨a1, rfl, rfl, rfl, w1⟩ := open_int Try.underlying3 (hval 1 3 v1 rfl rfl) h1
  obtain ⟨a2, rfl, rfl, rfl, w2⟩ := open_int Try.underlying3 (hval 2 3 v2 rfl rfl) h2
  clear hA0 hval0 hsz0 hsz
  refine (E.law_walk (E.law_lifts t0 b0 y0 c0 o0 a1 (E.Rng.of w1) a2 (E.Rng.of w2) E.AHeap.empty) (E.LRel.cons w0 (E.LRel.cons (.v _ rfl) (E.LRel.cons (.v _ rfl) E.lrel_nil)))).mono fun e W' ⟨he, bel⟩ => ?_
  subst he
  exact ⟨_, rfl, _, _, _, [], _, [], hW', trodAll_mk1 (shut_bool Try.underlying4 _), (trodAll_cons_mk (Below.trod E.laidOut (by kernel_rfl) (of_decide_eq_true (by kernel_rfl)) k0 bel lt0) (trodAll_cons_mk (shut_int Try.underlying3 w1) (trodAll_cons_mk (shut_int Try.underlying3 w2) trodAll_mk0))), rfl, bel.frame _, fun h => by cases h⟩

theorem over : Rows.termLiftsRow.holds Try.pinned (OpenSpec.ofChange Rows.termLiftsSpec) :=
  OpenClaim.holds_of_wide 3 Try.f3 rfl rfl rfl rfl rfl rfl rfl ⟨rfl, rfl, rfl, rfl, rfl⟩ rfl rfl rfl rfl rfl (by kernel_rfl) Try.func3 (by kernel_rfl)
    (of_decide_eq_true (by kernel_rfl)) (by unfold Func.isWrapper; first | (rw [if_pos (by decide +kernel)]; kernel_rfl) | (rw [if_neg (by decide +kernel)]; exact ⟨rfl, rfl⟩))
    (fun os started H enc _ => lifted os started H enc)
theorem proved : Rows.TermLiftsSaid := over
end Go.Proofs.Ytooaiddfokbffaa.termLifts
namespace Go.Proofs.Ytooaiddfokbffaa
/-- The row, under a short name, for the claim. -/
theorem termLifts_holds : Rows.TermLiftsSaid := termLifts.proved
#print axioms termLifts_holds
end Go.Proofs.Ytooaiddfokbffaa
