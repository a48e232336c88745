/- Texts of the proof, one behind the other. Conditions: none. -/
import Derived.Test.YtooaiddfokbffaaA7
/- term.Lift, as the code does it. Conditions: none. -/
set_option linter.unusedVariables false
set_option linter.unusedSimpArgs false
namespace Go.Proofs.Ytooaiddfokbffaa.E
open Go Go.Proofs
attribute [local go_sem] s_seq s_ops s_draw s_block s_skip s_ret s_exit i_nil i_cons i_run i_runG s_condQ c_true c_false aop ev_t ev_c updO_at updO_no upd_at t_normal t_ret t_exit b_normal b_ret b_exit a_some ac_v ac_agg ac_ptr ac_slc ac_ro ac_rop ac_fn new_next set_next argTm_zero argTm_succ argTm_nil ab_bool ab_uv beq_self_eq_true Option.some_beq_some Bool.not_not beq_iff_eq decide_true decide_false Bool.not_true Bool.not_false afld aload astore apack alen_str alen_ro alen_slc alen_nil new_get set_get ite_true ite_false Option.map_some Option.bind_some ibin isShift Nat.add_zero Nat.zero_add List.length_cons List.length_nil List.drop_zero List.drop_succ_cons List.take_succ_cons List.take_zero if_true if_false setL List.set_cons_zero List.set_cons_succ List.all_cons List.all_nil one_int one_bool one_str one_nil one_ptr one_slc one_ro one_rop one_fn Bool.and_self Bool.and_true true_and and_true and_self Bool.false_eq_true post_ret post_normal resAll resOne packR Option.some.injEq exists_eq_left' List.map_cons List.map_nil List.nil_append List.append_nil List.cons_append d_nil d_cons k_nil k_cons g_op g_same g_new avBlock forall_eq' List.getElem?_cons_succ List.getElem?_cons_zero List.getElem?_nil okind gOk bne false_imp_iff forall_const imp_self implies_true true_imp_iff i_callG

theorem all_and {p q : Tm → Prop} : ∀ t, Tm.All p t → Tm.All q t → Tm.All (fun t => p t ∧ q t) t := by
  refine Tm.rule fun f n hd s lv ks ih h1 h2 => ?_
  simp only [Tm.All] at *
  refine ⟨⟨h1.1, h2.1⟩, ?_⟩
  have key : ∀ ks', (∀ k ∈ ks', k ∈ ks) → Tm.AllL (fun t => p t ∧ q t) ks' := by
    intro ks'
    induction ks' with
    | nil => intro _; trivial
    | cons k r ih' => intro hm; exact ⟨ih k (hm k (List.mem_cons_self ..)) (h1.2.mem k (hm k (List.mem_cons_self ..))) (h2.2.mem k (hm k (List.mem_cons_self ..))), ih' fun k hk => hm k (List.mem_cons_of_mem _ hk)⟩
  exact key ks fun _ h => h

def rawLiftF (fr by_ : Int) (t : Tm) : Tm := if by_ = 0 ∧ fr = 0 then t else liftT fr by_ 0 t

set_option maxRecDepth 100000 in
theorem rawLift_ok (fr by_ : Int) (hfr : 0 ≤ fr ∧ fr ≤ 1073741824) (hby : 0 ≤ by_ ∧ by_ ≤ 1073741824) (t : Tm) (ha : Tm.All TmB t) (hv : Tm.All Vn t) (hh : htT t ≤ 1000000) (hz : szT t ≤ 1000000) (cells : List AV) (hT : TmP t cells) (H : AHeap) :
    SCall Try.prog 77 [.agg cells, aint fr, aint by_] H fun x H' => (∃ c, x = .agg c ∧ TmP (rawLiftF fr by_ t) c) ∧ H' = H := by
  have hT' := hT
  obtain ⟨lx, kx, hc6, p1, p2, p3, p4, p5, p6, p7, p8⟩ := hT.six
  subst hc6
  have main : SCall Try.prog 77 [.agg [aint t.form, aint t.n, abl t.hid, .v (.string t.name), lx, kx], aint fr, aint by_] H fun x H' => (∃ c, x = .agg c ∧ TmP (rawLiftF fr by_ t) c) ∧ Ext H H' := by
    refine SCall.intro mixed cf77 ?_
    have e1 : ¬ H.next = H.next + 1 := by omega
    have e2 : ¬ H.next + 1 = H.next := by omega
    have e3 : ¬ H.next = H.next + 1 + 1 := by omega
    have e4 : ¬ H.next + 1 = H.next + 1 + 1 := by omega
    by_cases h0 : by_ = 0 ∧ fr = 0
    · obtain ⟨rfl, rfl⟩ := h0
      simp -implicitDefEqProofs only [c77, go_sem, Nat.reduceEqDiff, Nat.reduceAdd, Nat.reduceLeDiff, ↓reduceIte, reduceCtorEq, Int.reduceBEq, Int.reduceBNe, Int.reduceLT, Int.reduceLE, Int.reduceGT, Int.reduceGE, Int.reduceNeg, Int.reduceAdd, Int.reduceSub, Nat.reduceMul, Nat.reduceLT, Int.reduceToNat, p1, p2, p3, p4, e1, e2]
      exact ⟨⟨_, rfl, hT'⟩, (((Ext.refl H).new _).new _).set (by omega) _⟩
    have hF : rawLiftF fr by_ t = liftT fr by_ 0 t := by simp only [rawLiftF]; rw [if_neg h0]
    rw [hF]
    have hc := (map_lift fr by_ t 0 1099511627776 [aint t.form, aint t.n, abl t.hid, .v (.string t.name), lx, kx] (by omega)).1
    have hm := map_ok (fid := 126) (fs := [.agg [aint fr, aint by_]]) (cap := []) (bl := H.next + 1 + 1) (bb := H.next) (by omega) (D := liftD fr by_) (Pt := fun t => TmB t ∧ Vn t) (Inv := fun c => ∀ x ∈ c, Old 0 x) (W := 0) (fun t h => h.1) (fun t deep m c => by simp [liftD]) (fun t deep m c _ h => h) (fun c h => h)
      (fun t cells deep m c G hP hT h3 h4 _ _ _ _ h1 h2 _ _ => (liftD_ok fr by_ hfr (by omega) t hP.2 cells deep m c ⟨h3, h4⟩ hT G).mono fun x H' ⟨hx, hH⟩ => ⟨hx, by rw [hH]; exact (put2_self h1 h2).symm⟩)
      t (all_and t ha hv) _ hT' 0 1099511627776 _ (by omega) (by omega) (by omega) (by omega) hT'.2 ((((H.new (.cells [aint t.form, aint t.n, abl t.hid, .v (.string t.name), lx, kx])).new (.cells [aint 0, aint 0, abl false, nostr, nils, nils])).new (.cells [aint 0])).set (H.next + 1 + 1) (.cells [aint 1099511627776]))
      (by simp -implicitDefEqProofs only [go_sem, Nat.reduceEqDiff, Nat.reduceAdd, Nat.reduceLeDiff, ↓reduceIte, reduceCtorEq, Int.reduceBEq, Int.reduceBNe, Int.reduceLT, Int.reduceLE, Int.reduceGT, Int.reduceGE, Int.reduceNeg, Int.reduceAdd, Int.reduceSub, Nat.reduceMul, Nat.reduceLT, Int.reduceToNat]) (by simp -implicitDefEqProofs only [go_sem, Nat.reduceEqDiff, Nat.reduceAdd, Nat.reduceLeDiff, ↓reduceIte, reduceCtorEq, Int.reduceBEq, Int.reduceBNe, Int.reduceLT, Int.reduceLE, Int.reduceGT, Int.reduceGE, Int.reduceNeg, Int.reduceAdd, Int.reduceSub, Nat.reduceMul, Nat.reduceLT, Int.reduceToNat, e1, e3]) (by simp only [set_next, new_next]; omega) (by simp only [set_next, new_next]; omega)
    rw [hc] at hm
    have fin : ∀ (tm : Nat → AV), True := fun _ => trivial
    by_cases hb0 : by_ = 0
    · have hf0 : ¬ fr = 0 := fun h => h0 ⟨hb0, h⟩
      subst hb0
      simp -implicitDefEqProofs only [c77, go_sem, Nat.reduceEqDiff, Nat.reduceAdd, Nat.reduceLeDiff, ↓reduceIte, reduceCtorEq, Int.reduceBEq, Int.reduceBNe, Int.reduceLT, Int.reduceLE, Int.reduceGT, Int.reduceGE, Int.reduceNeg, Int.reduceAdd, Int.reduceSub, Nat.reduceMul, Nat.reduceLT, Int.reduceToNat, p1, p2, p3, p4, e1, e2, bne' hf0, afill]
      refine i_callA (fs := []) (cs := []) ?_ ?_ (none_ok _) ?_
      · rfl
      · simp -implicitDefEqProofs only [go_sem, Nat.reduceEqDiff, Nat.reduceAdd, Nat.reduceLeDiff, ↓reduceIte, reduceCtorEq, Int.reduceBEq, Int.reduceBNe, Int.reduceLT, Int.reduceLE, Int.reduceGT, Int.reduceGE, Int.reduceNeg, Int.reduceAdd, Int.reduceSub, Nat.reduceMul, Nat.reduceLT, Int.reduceToNat]
      rintro x H3 ⟨rfl, rfl⟩
      simp -implicitDefEqProofs only [go_sem, Nat.reduceEqDiff, Nat.reduceAdd, Nat.reduceLeDiff, ↓reduceIte, reduceCtorEq, Int.reduceBEq, Int.reduceBNe, Int.reduceLT, Int.reduceLE, Int.reduceGT, Int.reduceGE, Int.reduceNeg, Int.reduceAdd, Int.reduceSub, Nat.reduceMul, Nat.reduceLT, Int.reduceToNat, e1, e2, e3, e4, afill]
      refine i_callA (fs := []) (cs := []) (fid := 123) ?_ ?_ hm ?_
      · rfl
      · simp -implicitDefEqProofs only [go_sem, Nat.reduceEqDiff, Nat.reduceAdd, Nat.reduceLeDiff, ↓reduceIte, reduceCtorEq, Int.reduceBEq, Int.reduceBNe, Int.reduceLT, Int.reduceLE, Int.reduceGT, Int.reduceGE, Int.reduceNeg, Int.reduceAdd, Int.reduceSub, Nat.reduceMul, Nat.reduceLT, Int.reduceToNat]
      rintro x H3 ⟨⟨xc, rfl, hxc⟩, rfl⟩
      obtain ⟨ax, bx, hx6, k1, k2, k3, k4, _⟩ := hxc.six
      subst hx6
      simp -implicitDefEqProofs only [go_sem, Nat.reduceEqDiff, Nat.reduceAdd, Nat.reduceLeDiff, ↓reduceIte, reduceCtorEq, Int.reduceBEq, Int.reduceBNe, Int.reduceLT, Int.reduceLE, Int.reduceGT, Int.reduceGE, Int.reduceNeg, Int.reduceAdd, Int.reduceSub, Nat.reduceMul, Nat.reduceLT, Int.reduceToNat, put2, e1, e2, e3, e4, k1, k2, k3, k4]
      exact ⟨⟨_, rfl, hxc⟩, (((((((Ext.refl H).new _).new _).new _).set (by omega) _).set (by omega) _).set (by omega) _).set (by omega) _⟩
    · simp -implicitDefEqProofs only [c77, go_sem, Nat.reduceEqDiff, Nat.reduceAdd, Nat.reduceLeDiff, ↓reduceIte, reduceCtorEq, Int.reduceBEq, Int.reduceBNe, Int.reduceLT, Int.reduceLE, Int.reduceGT, Int.reduceGE, Int.reduceNeg, Int.reduceAdd, Int.reduceSub, Nat.reduceMul, Nat.reduceLT, Int.reduceToNat, p1, p2, p3, p4, e1, e2, bne' hb0, afill]
      refine i_callA (fs := []) (cs := []) ?_ ?_ (none_ok _) ?_
      · rfl
      · simp -implicitDefEqProofs only [go_sem, Nat.reduceEqDiff, Nat.reduceAdd, Nat.reduceLeDiff, ↓reduceIte, reduceCtorEq, Int.reduceBEq, Int.reduceBNe, Int.reduceLT, Int.reduceLE, Int.reduceGT, Int.reduceGE, Int.reduceNeg, Int.reduceAdd, Int.reduceSub, Nat.reduceMul, Nat.reduceLT, Int.reduceToNat]
      rintro x H3 ⟨rfl, rfl⟩
      simp -implicitDefEqProofs only [go_sem, Nat.reduceEqDiff, Nat.reduceAdd, Nat.reduceLeDiff, ↓reduceIte, reduceCtorEq, Int.reduceBEq, Int.reduceBNe, Int.reduceLT, Int.reduceLE, Int.reduceGT, Int.reduceGE, Int.reduceNeg, Int.reduceAdd, Int.reduceSub, Nat.reduceMul, Nat.reduceLT, Int.reduceToNat, e1, e2, e3, e4, afill]
      refine i_callA (fs := []) (cs := []) (fid := 123) ?_ ?_ hm ?_
      · rfl
      · simp -implicitDefEqProofs only [go_sem, Nat.reduceEqDiff, Nat.reduceAdd, Nat.reduceLeDiff, ↓reduceIte, reduceCtorEq, Int.reduceBEq, Int.reduceBNe, Int.reduceLT, Int.reduceLE, Int.reduceGT, Int.reduceGE, Int.reduceNeg, Int.reduceAdd, Int.reduceSub, Nat.reduceMul, Nat.reduceLT, Int.reduceToNat]
      rintro x H3 ⟨⟨xc, rfl, hxc⟩, rfl⟩
      obtain ⟨ax, bx, hx6, k1, k2, k3, k4, _⟩ := hxc.six
      subst hx6
      simp -implicitDefEqProofs only [go_sem, Nat.reduceEqDiff, Nat.reduceAdd, Nat.reduceLeDiff, ↓reduceIte, reduceCtorEq, Int.reduceBEq, Int.reduceBNe, Int.reduceLT, Int.reduceLE, Int.reduceGT, Int.reduceGE, Int.reduceNeg, Int.reduceAdd, Int.reduceSub, Nat.reduceMul, Nat.reduceLT, Int.reduceToNat, put2, e1, e2, e3, e4, k1, k2, k3, k4]
      exact ⟨⟨_, rfl, hxc⟩, (((((((Ext.refl H).new _).new _).new _).set (by omega) _).set (by omega) _).set (by omega) _).set (by omega) _⟩
  exact main.frz fun _ _ x H' ⟨⟨xc, hx, hxc⟩, hE⟩ _ => ⟨hE, x, by rw [hx]; exact tmp_keep hxc, xc, hx, hxc⟩

/-- An answer with an error, of terms. -/
def TmE (t : Tm) (e : Int) (x : AV) : Prop := ∃ c, x = .tup [.agg c, aint e] ∧ TmP t c
theorem TmE.old {t : Tm} {e : Int} {x : AV} (h : TmE t e x) (n : Nat) : Old n x := by
  obtain ⟨c, rfl, hc⟩ := h
  exact .tup _ fun y hy => by
    simp at hy
    rcases hy with rfl | rfl
    · exact .agg _ fun z hz => (hc.2 z hz).mono (Nat.zero_le _)
    · exact .v _

def toldF (left : Int) (t : Tm) : Tm × Int := if left < 0 ∨ ¬ checkF canF t = 0 then (zeroTm, 2) else (t, 0)

set_option maxRecDepth 100000 in
theorem told_ok (t : Tm) (ha : Tm.All TmB t) (cells : List AV) (hT : TmP t cells) (left : Int) (H : AHeap) : SCall Try.prog 75 [.agg cells, aint left] H fun x H' => TmE (toldF left t).1 (toldF left t).2 x ∧ H' = H := by
  have hT' := hT
  obtain ⟨lx, kx, hc6, p1, p2, p3, p4, p5, p6, p7, p8⟩ := hT.six
  subst hc6
  have main : SCall Try.prog 75 [.agg [aint t.form, aint t.n, abl t.hid, .v (.string t.name), lx, kx], aint left] H fun x H' => TmE (toldF left t).1 (toldF left t).2 x ∧ Ext H H' := by
    refine SCall.intro mixed cf75 ?_
    have e1 : ¬ H.next = H.next + 1 := by omega
    have e2 : ¬ H.next + 1 = H.next := by omega
    by_cases hl : left < 0
    · simp -implicitDefEqProofs only [c75, go_sem, Nat.reduceEqDiff, Nat.reduceAdd, Nat.reduceLeDiff, ↓reduceIte, reduceCtorEq, Int.reduceBEq, Int.reduceBNe, Int.reduceLT, Int.reduceLE, Int.reduceGT, Int.reduceGE, Int.reduceNeg, Int.reduceAdd, Int.reduceSub, Nat.reduceMul, Nat.reduceLT, Int.reduceToNat, p1, p2, p3, p4, e1, e2, hl, afill]
      exact ⟨⟨z6, by simp [toldF, hl], by simp [toldF, hl]; exact tmp_zero⟩, (((Ext.refl H).new _).new _).set (by omega) _⟩
    simp -implicitDefEqProofs only [c75, go_sem, Nat.reduceEqDiff, Nat.reduceAdd, Nat.reduceLeDiff, ↓reduceIte, reduceCtorEq, Int.reduceBEq, Int.reduceBNe, Int.reduceLT, Int.reduceLE, Int.reduceGT, Int.reduceGE, Int.reduceNeg, Int.reduceAdd, Int.reduceSub, Nat.reduceMul, Nat.reduceLT, Int.reduceToNat, p1, p2, p3, p4, e1, e2, hl, afill]
    refine i_callA (fs := []) (cs := []) ?_ ?_ (check_ok canF t (tmb_fine ha) _ hT'.1 _) ?_
    · rfl
    · simp -implicitDefEqProofs only [go_sem, Nat.reduceEqDiff, Nat.reduceAdd, Nat.reduceLeDiff, ↓reduceIte, reduceCtorEq, Int.reduceBEq, Int.reduceBNe, Int.reduceLT, Int.reduceLE, Int.reduceGT, Int.reduceGE, Int.reduceNeg, Int.reduceAdd, Int.reduceSub, Nat.reduceMul, Nat.reduceLT, Int.reduceToNat]
    rintro x H3 ⟨rfl, rfl⟩
    by_cases hc : checkF canF t = 0
    · rw [hc]
      simp -implicitDefEqProofs only [go_sem, Nat.reduceEqDiff, Nat.reduceAdd, Nat.reduceLeDiff, ↓reduceIte, reduceCtorEq, Int.reduceBEq, Int.reduceBNe, Int.reduceLT, Int.reduceLE, Int.reduceGT, Int.reduceGE, Int.reduceNeg, Int.reduceAdd, Int.reduceSub, Nat.reduceMul, Nat.reduceLT, Int.reduceToNat, p1, p2, p3, p4, e1, e2, afill]
      exact ⟨⟨_, by simp [toldF, hl, hc]; rfl, by simp [toldF, hl, hc]; exact hT'⟩, (((Ext.refl H).new _).new _).set (by omega) _⟩
    · simp -implicitDefEqProofs only [go_sem, Nat.reduceEqDiff, Nat.reduceAdd, Nat.reduceLeDiff, ↓reduceIte, reduceCtorEq, Int.reduceBEq, Int.reduceBNe, Int.reduceLT, Int.reduceLE, Int.reduceGT, Int.reduceGE, Int.reduceNeg, Int.reduceAdd, Int.reduceSub, Nat.reduceMul, Nat.reduceLT, Int.reduceToNat, p1, p2, p3, p4, e1, e2, afill, bne' hc]
      exact ⟨⟨z6, by simp [toldF, hc], by simp [toldF, hc]; exact tmp_zero⟩, (((Ext.refl H).new _).new _).set (by omega) _⟩
  exact main.frz fun _ _ x H' ⟨hx, hE⟩ _ => ⟨hE, x, .keep _ (hx.old _), hx⟩

def LiftF (fr by_ : Int) (t : Tm) : Tm × Int :=
  if ¬ checkF canF t = 0 then (zeroTm, checkF canF t) else if fr < 0 ∨ by_ < 0 ∨ fr > 1048576 ∨ by_ > 1048576 then (zeroTm, 1) else toldF 0 (cleanT (rawLiftF fr by_ t))

mutual
theorem liftT_sz (fr by_ deep : Int) : ∀ t, szT (liftT fr by_ deep t) ≤ szT t
  | .mk f n h s lv ks => by
    rw [liftT]
    split
    · simp only [varTm, szT, szK]; omega
    · simp only [bareT, Tm.with, szT]
      have := liftK_sz fr by_ f deep ks 0
      omega
theorem liftK_sz (fr by_ f deep : Int) : ∀ (ks : List Tm) (i : Nat), szK (liftK fr by_ f i deep ks) ≤ szK ks
  | [], i => by simp [liftK]
  | k :: r, i => by
    simp only [liftK, szK]
    have h1 := liftT_sz fr by_ (underF f i deep) k
    have h2 := liftK_sz fr by_ f deep r (i + 1)
    omega
end
mutual
theorem liftT_ht (fr by_ deep : Int) : ∀ t, htT (liftT fr by_ deep t) ≤ htT t
  | .mk f n h s lv ks => by
    rw [liftT]
    split
    · simp only [varTm, htT, htK]; omega
    · simp only [bareT, Tm.with, htT]
      have := liftK_ht fr by_ f deep ks 0
      omega
theorem liftK_ht (fr by_ f deep : Int) : ∀ (ks : List Tm) (i : Nat), htK (liftK fr by_ f i deep ks) ≤ htK ks
  | [], i => by simp [liftK]
  | k :: r, i => by
    simp only [liftK, htK]
    have h1 := liftT_ht fr by_ (underF f i deep) k
    have h2 := liftK_ht fr by_ f deep r (i + 1)
    omega
end

theorem rawLift_tmb {fr by_ : Int} (hby : 0 ≤ by_ ∧ by_ ≤ 4611686018427387904) {t : Tm} (ha : Tm.All TmB t) (hv : Tm.All Vn t) : Tm.All TmB (rawLiftF fr by_ t) := by
  unfold rawLiftF
  split
  · exact ha
  · exact tmb_lift fr by_ hby t ha hv 0
theorem rawLift_sz (fr by_ : Int) (t : Tm) : szT (rawLiftF fr by_ t) ≤ szT t := by
  unfold rawLiftF
  split
  · exact Nat.le_refl _
  · exact liftT_sz ..
theorem rawLift_ht (fr by_ : Int) (t : Tm) : htT (rawLiftF fr by_ t) ≤ htT t := by
  unfold rawLiftF
  split
  · exact Nat.le_refl _
  · exact liftT_ht ..

theorem check_vn {t : Tm} (hb : Tm.All TmB t) (h : checkF canF t = 0) : Tm.All Vn t := vok_vn (form_vok canF t hb (check_form h).2)

set_option maxRecDepth 100000 in
theorem Lift_ok (fr by_ : Int) (hr1 : Rng fr) (hr2 : Rng by_) (t : Tm) (ha : Tm.All TmB t) (hh : htT t ≤ 1000000) (hz : szT t ≤ 1000000) (cells : List AV) (hT : TmP t cells) (H : AHeap) :
    SCall Try.prog 17 [.agg cells, aint fr, aint by_] H fun x H' => TmE (LiftF fr by_ t).1 (LiftF fr by_ t).2 x ∧ H' = H := by
  have hT' := hT
  obtain ⟨lx, kx, hc6, p1, p2, p3, p4, p5, p6, p7, p8⟩ := hT.six
  subst hc6
  have main : SCall Try.prog 17 [.agg [aint t.form, aint t.n, abl t.hid, .v (.string t.name), lx, kx], aint fr, aint by_] H fun x H' => TmE (LiftF fr by_ t).1 (LiftF fr by_ t).2 x ∧ Ext H H' := by
    refine SCall.intro mixed cf17 ?_
    have e1 : ¬ H.next = H.next + 1 := by omega
    have e2 : ¬ H.next + 1 = H.next := by omega
    have hE : ∀ o1 o2 o3, Ext H (((H.new o1).new o2).set (H.next + 1) o3) := fun o1 o2 o3 => (((Ext.refl H).new _).new _).set (by omega) _
    simp -implicitDefEqProofs only [c17, go_sem, Nat.reduceEqDiff, Nat.reduceAdd, Nat.reduceLeDiff, ↓reduceIte, reduceCtorEq, Int.reduceBEq, Int.reduceBNe, Int.reduceLT, Int.reduceLE, Int.reduceGT, Int.reduceGE, Int.reduceNeg, Int.reduceAdd, Int.reduceSub, Nat.reduceMul, Nat.reduceLT, Int.reduceToNat, p1, p2, p3, p4, e1, e2]
    refine i_callA (fs := []) (cs := []) ?_ ?_ (check_ok canF t (tmb_fine ha) _ hT'.1 _) ?_
    · rfl
    · simp -implicitDefEqProofs only [go_sem, Nat.reduceEqDiff, Nat.reduceAdd, Nat.reduceLeDiff, ↓reduceIte, reduceCtorEq, Int.reduceBEq, Int.reduceBNe, Int.reduceLT, Int.reduceLE, Int.reduceGT, Int.reduceGE, Int.reduceNeg, Int.reduceAdd, Int.reduceSub, Nat.reduceMul, Nat.reduceLT, Int.reduceToNat]
    rintro x H3 ⟨rfl, rfl⟩
    by_cases hc : checkF canF t = 0
    case neg =>
      simp -implicitDefEqProofs only [go_sem, Nat.reduceEqDiff, Nat.reduceAdd, Nat.reduceLeDiff, ↓reduceIte, reduceCtorEq, Int.reduceBEq, Int.reduceBNe, Int.reduceLT, Int.reduceLE, Int.reduceGT, Int.reduceGE, Int.reduceNeg, Int.reduceAdd, Int.reduceSub, Nat.reduceMul, Nat.reduceLT, Int.reduceToNat, p1, p2, p3, p4, e1, e2, afill, bne' hc]
      exact ⟨⟨z6, by simp [LiftF, hc], by simp [LiftF, hc]; exact tmp_zero⟩, hE _ _ _⟩
    rw [hc]
    by_cases g1 : fr < 0
    · simp -implicitDefEqProofs only [go_sem, Nat.reduceEqDiff, Nat.reduceAdd, Nat.reduceLeDiff, ↓reduceIte, reduceCtorEq, Int.reduceBEq, Int.reduceBNe, Int.reduceLT, Int.reduceLE, Int.reduceGT, Int.reduceGE, Int.reduceNeg, Int.reduceAdd, Int.reduceSub, Nat.reduceMul, Nat.reduceLT, Int.reduceToNat, p1, p2, p3, p4, e1, e2, afill, g1]
      exact ⟨⟨z6, by simp [LiftF, hc, g1], by simp [LiftF, hc, g1]; exact tmp_zero⟩, hE _ _ _⟩
    by_cases g2 : by_ < 0
    · simp -implicitDefEqProofs only [go_sem, Nat.reduceEqDiff, Nat.reduceAdd, Nat.reduceLeDiff, ↓reduceIte, reduceCtorEq, Int.reduceBEq, Int.reduceBNe, Int.reduceLT, Int.reduceLE, Int.reduceGT, Int.reduceGE, Int.reduceNeg, Int.reduceAdd, Int.reduceSub, Nat.reduceMul, Nat.reduceLT, Int.reduceToNat, p1, p2, p3, p4, e1, e2, afill, g1, g2]
      exact ⟨⟨z6, by simp [LiftF, hc, g2], by simp [LiftF, hc, g2]; exact tmp_zero⟩, hE _ _ _⟩
    by_cases g3 : fr > 1048576
    · simp -implicitDefEqProofs only [go_sem, Nat.reduceEqDiff, Nat.reduceAdd, Nat.reduceLeDiff, ↓reduceIte, reduceCtorEq, Int.reduceBEq, Int.reduceBNe, Int.reduceLT, Int.reduceLE, Int.reduceGT, Int.reduceGE, Int.reduceNeg, Int.reduceAdd, Int.reduceSub, Nat.reduceMul, Nat.reduceLT, Int.reduceToNat, p1, p2, p3, p4, e1, e2, afill, g1, g2, g3]
      exact ⟨⟨z6, by simp [LiftF, hc, g3], by simp [LiftF, hc, g3]; exact tmp_zero⟩, hE _ _ _⟩
    by_cases g4 : by_ > 1048576
    · simp -implicitDefEqProofs only [go_sem, Nat.reduceEqDiff, Nat.reduceAdd, Nat.reduceLeDiff, ↓reduceIte, reduceCtorEq, Int.reduceBEq, Int.reduceBNe, Int.reduceLT, Int.reduceLE, Int.reduceGT, Int.reduceGE, Int.reduceNeg, Int.reduceAdd, Int.reduceSub, Nat.reduceMul, Nat.reduceLT, Int.reduceToNat, p1, p2, p3, p4, e1, e2, afill, g1, g2, g3, g4]
      exact ⟨⟨z6, by simp [LiftF, hc, g4], by simp [LiftF, hc, g4]; exact tmp_zero⟩, hE _ _ _⟩
    have hF : LiftF fr by_ t = toldF 0 (cleanT (rawLiftF fr by_ t)) := by
      simp only [LiftF]
      rw [if_neg (by simp [hc]), if_neg (by omega)]
    have hv := check_vn ha hc
    have hb1 : Tm.All TmB (rawLiftF fr by_ t) := rawLift_tmb (by omega) ha hv
    have hs1 := rawLift_sz fr by_ t
    have hs2 := rawLift_ht fr by_ t
    rw [hF]
    simp -implicitDefEqProofs only [go_sem, Nat.reduceEqDiff, Nat.reduceAdd, Nat.reduceLeDiff, ↓reduceIte, reduceCtorEq, Int.reduceBEq, Int.reduceBNe, Int.reduceLT, Int.reduceLE, Int.reduceGT, Int.reduceGE, Int.reduceNeg, Int.reduceAdd, Int.reduceSub, Nat.reduceMul, Nat.reduceLT, Int.reduceToNat, p1, p2, p3, p4, e1, e2, g1, g2, g3, g4]
    refine i_callA (fs := []) (cs := []) ?_ ?_ (rawLift_ok fr by_ (by omega) (by omega) t ha hv hh hz _ hT' _) ?_
    · rfl
    · simp -implicitDefEqProofs only [go_sem, Nat.reduceEqDiff, Nat.reduceAdd, Nat.reduceLeDiff, ↓reduceIte, reduceCtorEq, Int.reduceBEq, Int.reduceBNe, Int.reduceLT, Int.reduceLE, Int.reduceGT, Int.reduceGE, Int.reduceNeg, Int.reduceAdd, Int.reduceSub, Nat.reduceMul, Nat.reduceLT, Int.reduceToNat]
    rintro x H3 ⟨⟨c1, rfl, h1⟩, rfl⟩
    simp -implicitDefEqProofs only [go_sem, Nat.reduceEqDiff, Nat.reduceAdd, Nat.reduceLeDiff, ↓reduceIte, reduceCtorEq, Int.reduceBEq, Int.reduceBNe, Int.reduceLT, Int.reduceLE, Int.reduceGT, Int.reduceGE, Int.reduceNeg, Int.reduceAdd, Int.reduceSub, Nat.reduceMul, Nat.reduceLT, Int.reduceToNat]
    refine i_callA (fs := []) (cs := []) ?_ ?_ (copy_ok (rawLiftF fr by_ t) hb1 (by omega) (by omega) _ h1 _) ?_
    · rfl
    · simp -implicitDefEqProofs only [go_sem, Nat.reduceEqDiff, Nat.reduceAdd, Nat.reduceLeDiff, ↓reduceIte, reduceCtorEq, Int.reduceBEq, Int.reduceBNe, Int.reduceLT, Int.reduceLE, Int.reduceGT, Int.reduceGE, Int.reduceNeg, Int.reduceAdd, Int.reduceSub, Nat.reduceMul, Nat.reduceLT, Int.reduceToNat]
    rintro x H3 ⟨⟨c2, rfl, h2⟩, rfl⟩
    simp -implicitDefEqProofs only [go_sem, Nat.reduceEqDiff, Nat.reduceAdd, Nat.reduceLeDiff, ↓reduceIte, reduceCtorEq, Int.reduceBEq, Int.reduceBNe, Int.reduceLT, Int.reduceLE, Int.reduceGT, Int.reduceGE, Int.reduceNeg, Int.reduceAdd, Int.reduceSub, Nat.reduceMul, Nat.reduceLT, Int.reduceToNat]
    refine i_callA (fs := []) (cs := []) ?_ ?_ (told_ok (cleanT (rawLiftF fr by_ t)) (tmb_clean _ hb1) _ h2 0 _) ?_
    · rfl
    · simp -implicitDefEqProofs only [go_sem, Nat.reduceEqDiff, Nat.reduceAdd, Nat.reduceLeDiff, ↓reduceIte, reduceCtorEq, Int.reduceBEq, Int.reduceBNe, Int.reduceLT, Int.reduceLE, Int.reduceGT, Int.reduceGE, Int.reduceNeg, Int.reduceAdd, Int.reduceSub, Nat.reduceMul, Nat.reduceLT, Int.reduceToNat]
    rintro x H3 ⟨⟨c3, rfl, h3⟩, rfl⟩
    obtain ⟨ax, bx, hx6, k1, k2, k3, k4, _⟩ := h3.six
    subst hx6
    simp -implicitDefEqProofs only [go_sem, Nat.reduceEqDiff, Nat.reduceAdd, Nat.reduceLeDiff, ↓reduceIte, reduceCtorEq, Int.reduceBEq, Int.reduceBNe, Int.reduceLT, Int.reduceLE, Int.reduceGT, Int.reduceGE, Int.reduceNeg, Int.reduceAdd, Int.reduceSub, Nat.reduceMul, Nat.reduceLT, Int.reduceToNat, e1, e2, k1, k2, k3, k4]
    exact ⟨⟨_, rfl, h3⟩, hE _ _ _⟩
  exact main.frz fun _ _ x H' ⟨hx, hE⟩ _ => ⟨hE, x, .keep _ (hx.old _), hx⟩
end Go.Proofs.Ytooaiddfokbffaa.E

/- Lifts and replacements, as laws of trees. Conditions: none. -/
set_option linter.unusedVariables false
set_option linter.unusedSimpArgs false
namespace Go.Proofs.Ytooaiddfokbffaa.E
open Go Go.Proofs

mutual
def putT (at_ : Int) (s : Tm) (deep : Int) : Tm → Tm
  | .mk f n h sn lv ks => if f = 1 ∧ n ≥ at_ + deep then (if n > at_ + deep then varTm (n - 1) else liftT 0 deep 0 s) else (bareT (.mk f n h sn lv ks)).with (putK at_ s f 0 deep ks)
def putK (at_ : Int) (s : Tm) (f : Int) (i : Nat) (deep : Int) : List Tm → List Tm
  | [] => []
  | k :: r => putT at_ s (underF f i deep) k :: putK at_ s f (i + 1) deep r
end

/-- What stands within a binder, with a number more. -/
theorem underF_add (f i d e : Int) : underF f i (d + e) = underF f i d + e := by
  unfold underF; split <;> omega
theorem underF_add' (f i d e : Int) : underF f i (d + e) = d + underF f i e := by
  unfold underF; split <;> omega

theorem lift_node (fr by_ deep : Int) {f n : Int} {h : Bool} {s : ByteArray} {lv : List Lv} {ks : List Tm} (hn : ¬ (f = 1 ∧ n ≥ fr + deep)) : liftT fr by_ deep (.mk f n h s lv ks) = (bareT (.mk f n h s lv ks)).with (liftK fr by_ f 0 deep ks) := by
  rw [liftT, if_neg hn]
theorem lift_var (fr by_ deep : Int) {f n : Int} {h : Bool} {s : ByteArray} {lv : List Lv} {ks : List Tm} (hn : f = 1 ∧ n ≥ fr + deep) : liftT fr by_ deep (.mk f n h s lv ks) = varTm (n + by_) := by
  rw [liftT, if_pos hn]
theorem put_node (at_ : Int) (u : Tm) (deep : Int) {f n : Int} {h : Bool} {s : ByteArray} {lv : List Lv} {ks : List Tm} (hn : ¬ (f = 1 ∧ n ≥ at_ + deep)) : putT at_ u deep (.mk f n h s lv ks) = (bareT (.mk f n h s lv ks)).with (putK at_ u f 0 deep ks) := by
  rw [putT, if_neg hn]
theorem put_gt (at_ : Int) (u : Tm) (deep : Int) {f n : Int} {h : Bool} {s : ByteArray} {lv : List Lv} {ks : List Tm} (hf : f = 1) (hn : n > at_ + deep) : putT at_ u deep (.mk f n h s lv ks) = varTm (n - 1) := by
  rw [putT, if_pos ⟨hf, by omega⟩, if_pos hn]
theorem put_eq (at_ : Int) (u : Tm) (deep : Int) {f n : Int} {h : Bool} {s : ByteArray} {lv : List Lv} {ks : List Tm} (hf : f = 1) (hn : n = at_ + deep) : putT at_ u deep (.mk f n h s lv ks) = liftT 0 deep 0 u := by
  rw [putT, if_pos ⟨hf, by omega⟩, if_neg (by omega)]

/-- A node whose fields are told. -/
theorem bare_mk (f n : Int) (h : Bool) (s : ByteArray) (lv : List Lv) (ks ks' : List Tm) : (bareT (.mk f n h s lv ks)).with ks' = .mk f (if f = 1 ∨ f = 11 then n else 0) (if f = 3 ∨ f = 4 ∨ f = 5 then h else false) (if f = 10 then s else zeroS) (if f = 2 ∨ f = 10 then lv else []) ks' := rfl
theorem bare_bare (f n : Int) (h : Bool) (s : ByteArray) (lv : List Lv) (ks ks' ks'' : List Tm) :
    (bareT (.mk f (if f = 1 ∨ f = 11 then n else 0) (if f = 3 ∨ f = 4 ∨ f = 5 then h else false) (if f = 10 then s else zeroS) (if f = 2 ∨ f = 10 then lv else []) ks')).with ks'' = (bareT (.mk f n h s lv ks)).with ks'' := by
  rw [bare_mk, bare_mk]
  congr 1 <;> split <;> rfl

theorem node_var {f n c : Int} (h : ¬ (f = 1 ∧ n ≥ c)) : ¬ (f = 1 ∧ (if f = 1 ∨ f = 11 then n else 0) ≥ c) := by
  rintro ⟨h1, h2⟩
  rw [if_pos (.inl h1)] at h2
  exact h ⟨h1, h2⟩

theorem clean_bare (f n : Int) (h : Bool) (s : ByteArray) (lv : List Lv) (ks ks' : List Tm) : cleanT ((bareT (.mk f n h s lv ks)).with ks') = (bareT (.mk f n h s lv ks)).with (cleanK ks') := by
  rw [bare_mk, cleanT, bare_bare]

mutual
theorem clean_lift (fr by_ deep : Int) : ∀ t, cleanT (liftT fr by_ deep t) = liftT fr by_ deep t
  | .mk f n h s lv ks => by
    by_cases hn : f = 1 ∧ n ≥ fr + deep
    · rw [lift_var _ _ _ hn]; rfl
    · rw [lift_node _ _ _ hn, clean_bare, clean_liftK]
theorem clean_liftK (fr by_ f deep : Int) : ∀ (ks : List Tm) (i : Nat), cleanK (liftK fr by_ f i deep ks) = liftK fr by_ f i deep ks
  | [], _ => rfl
  | k :: r, i => by simp only [liftK, cleanK, clean_lift fr by_ _ k, clean_liftK fr by_ f deep r (i + 1)]
end

mutual
/-- Lifts, one behind the other. -/
theorem lift_lift (d k : Int) (hd : 0 ≤ d) (hk : 0 ≤ k) (j e : Int) (he1 : j ≤ e) (he2 : e ≤ k + j) : ∀ u, liftT 0 d e (liftT 0 k j u) = liftT 0 (d + k) j u
  | .mk f n h s lv ks => by
    by_cases hn : f = 1 ∧ n ≥ 0 + j
    · rw [lift_var _ _ _ hn, lift_var _ _ _ hn, varTm, lift_var _ _ _ ⟨rfl, by omega⟩]
      congr 1; omega
    · rw [lift_node _ _ _ hn, lift_node _ _ _ hn, bare_mk, lift_node, bare_bare (ks := ks), lift_liftK d k hd hk f j e he1 he2 ks 0]
      exact node_var (by rintro ⟨h1, h2⟩; exact hn ⟨h1, by omega⟩)
theorem lift_liftK (d k : Int) (hd : 0 ≤ d) (hk : 0 ≤ k) (f j e : Int) (he1 : j ≤ e) (he2 : e ≤ k + j) : ∀ (ks : List Tm) (i : Nat), liftK 0 d f i e (liftK 0 k f i j ks) = liftK 0 (d + k) f i j ks
  | [], _ => rfl
  | q :: r, i => by
    simp only [liftK]
    have h1 : underF f i j ≤ underF f i e := by unfold underF; split <;> omega
    have h2 : underF f i e ≤ k + underF f i j := by unfold underF; split <;> omega
    rw [lift_lift d k hd hk _ _ h1 h2 q, lift_liftK d k hd hk f j e he1 he2 r (i + 1)]
end

theorem put_varTm (at_ : Int) (u : Tm) (deep n : Int) (hn : n ≥ at_ + deep) : putT at_ u deep (varTm n) = if n > at_ + deep then varTm (n - 1) else liftT 0 deep 0 u := by
  rw [varTm, putT, if_pos ⟨rfl, hn⟩]
theorem lift_varTm (fr by_ deep n : Int) (hn : n ≥ fr + deep) : liftT fr by_ deep (varTm n) = varTm (n + by_) := lift_var _ _ _ ⟨rfl, hn⟩

mutual
/-- What is lifted is not touched by a replacement at the place where it was lifted. -/
theorem put_lift (x : Tm) (d : Int) (hd : 0 ≤ d) (j : Int) : ∀ t, putT 0 x (d + j) (liftT 0 (d + 1) j t) = liftT 0 d j t
  | .mk f n h sn lv ks => by
    by_cases hn : f = 1 ∧ n ≥ 0 + j
    · rw [lift_var _ _ _ hn, lift_var _ _ _ hn, put_varTm _ _ _ _ (by omega), if_pos (by omega)]
      congr 1; omega
    · rw [lift_node _ _ _ hn, lift_node _ _ _ hn, bare_mk, put_node, bare_bare (ks := ks), put_liftK x d hd j f ks 0]
      exact node_var (by rintro ⟨h1, h2⟩; exact hn ⟨h1, by omega⟩)
theorem put_liftK (x : Tm) (d : Int) (hd : 0 ≤ d) (j f : Int) : ∀ (ks : List Tm) (i : Nat), putK 0 x f i (d + j) (liftK 0 (d + 1) f i j ks) = liftK 0 d f i j ks
  | [], _ => rfl
  | k :: r, i => by
    simp only [liftK, putK]
    rw [underF_add', put_lift x d hd _ k, put_liftK x d hd j f r (i + 1)]
end

mutual
/-- A replacement beneath a lift. -/
theorem put_comm (u : Tm) (d : Int) (hd : 0 ≤ d) (k : Int) (hk : 0 ≤ k) : ∀ s, putT 0 u (d + k) (liftT 0 d k s) = liftT 0 d k (putT 0 u k s)
  | .mk f n h sn lv ks => by
    by_cases hn : f = 1 ∧ n ≥ 0 + k
    · obtain ⟨rfl, hn2⟩ := hn
      rw [lift_var _ _ _ ⟨rfl, hn2⟩, put_varTm _ _ _ _ (by omega)]
      by_cases hg : n > 0 + k
      · rw [if_pos (by omega), put_gt _ _ _ rfl hg, lift_varTm _ _ _ _ (by omega)]
        congr 1; omega
      · rw [if_neg (by omega), put_eq _ _ _ rfl (by omega), lift_lift d k hd hk 0 k hk (by omega)]
    · rw [lift_node _ _ _ hn, put_node _ _ _ hn, bare_mk, bare_mk, put_node, lift_node, bare_bare (ks := ks), bare_bare (ks := ks), put_commK u d hd k hk f ks 0]
      · exact node_var hn
      · exact node_var (by rintro ⟨h1, h2⟩; exact hn ⟨h1, by omega⟩)
theorem put_commK (u : Tm) (d : Int) (hd : 0 ≤ d) (k : Int) (hk : 0 ≤ k) (f : Int) : ∀ (ks : List Tm) (i : Nat), putK 0 u f i (d + k) (liftK 0 d f i k ks) = liftK 0 d f i k (putK 0 u f i k ks)
  | [], _ => rfl
  | q :: r, i => by
    simp only [liftK, putK]
    have h1 : 0 ≤ underF f i k := by unfold underF; split <;> omega
    rw [underF_add', put_comm u d hd _ h1 q, put_commK u d hd k hk f r (i + 1)]
end

mutual
/-- Two replacements, in either order. -/
theorem put_put (s u : Tm) (d : Int) (hd : 0 ≤ d) : ∀ t, putT 0 u d (putT 0 s d t) = putT 0 (putT 0 u 0 s) d (putT 1 (liftT 0 1 0 u) d t)
  | .mk f n h sn lv ks => by
    by_cases hn : f = 1 ∧ n ≥ 0 + d
    · obtain ⟨rfl, hn2⟩ := hn
      by_cases h0 : n = 0 + d
      · rw [put_eq _ _ _ rfl h0]
        have hB := put_comm u d hd 0 (by omega) s
        rw [Int.add_zero] at hB
        rw [hB, put_node 1 _ _ (by omega), bare_mk, put_eq _ _ _ rfl (by rw [if_pos (.inl rfl)]; exact h0)]
      · rw [put_gt _ _ _ rfl (by omega)]
        by_cases h1 : n = 1 + d
        · rw [put_varTm _ _ _ _ (by omega), if_neg (by omega), put_eq 1 _ _ rfl h1, lift_lift d 1 hd (by omega) 0 0 (by omega) (by omega)]
          have hP := put_lift (putT 0 u 0 s) d hd 0 u
          rw [Int.add_zero] at hP
          rw [hP]
        · rw [put_varTm _ _ _ _ (by omega), if_pos (by omega), put_gt 1 _ _ rfl (by omega), put_varTm _ _ _ _ (by omega), if_pos (by omega)]
    · have hn1 : ¬ (f = 1 ∧ n ≥ 1 + d) := by rintro ⟨h1, h2⟩; exact hn ⟨h1, by omega⟩
      rw [put_node _ _ _ hn, put_node _ _ _ hn1, bare_mk, bare_mk, put_node, put_node, bare_bare (ks := ks), bare_bare (ks := ks), put_putK s u d hd f ks 0]
      · exact node_var hn
      · exact node_var hn
theorem put_putK (s u : Tm) (d : Int) (hd : 0 ≤ d) (f : Int) : ∀ (ks : List Tm) (i : Nat), putK 0 u f i d (putK 0 s f i d ks) = putK 0 (putT 0 u 0 s) f i d (putK 1 (liftT 0 1 0 u) f i d ks)
  | [], _ => rfl
  | q :: r, i => by
    simp only [putK]
    have h1 : 0 ≤ underF f i d := by unfold underF; split <;> omega
    rw [put_put s u _ h1 q, put_putK s u d hd f r (i + 1)]
end

/-- A variable has no parts. -/
def Vk (t : Tm) : Prop := t.form = 1 → t.kids = []
mutual
theorem lift_zero (j : Int) : ∀ t, Tm.All Vk t → liftT 0 0 j t = cleanT t
  | .mk f n h s lv ks, ha => by
    simp only [Tm.All, Vk, Tm.form, Tm.kids] at ha
    by_cases hn : f = 1 ∧ n ≥ 0 + j
    · obtain ⟨rfl, hn2⟩ := hn
      obtain ⟨ha, _⟩ := ha
      obtain rfl := ha rfl
      rw [lift_var _ _ _ ⟨rfl, hn2⟩, Int.add_zero, cleanT, bare_mk]; rfl
    · rw [lift_node _ _ _ hn, cleanT, lift_zeroK j f ks 0 ha.2]
theorem lift_zeroK (j f : Int) : ∀ (ks : List Tm) (i : Nat), Tm.AllL Vk ks → liftK 0 0 f i j ks = cleanK ks
  | [], _, _ => rfl
  | k :: r, i, ha => by
    simp only [Tm.AllL] at ha
    simp only [liftK, cleanK]
    rw [lift_zero _ k ha.1, lift_zeroK j f r (i + 1) ha.2]
end

/-- Sizes and heights of what is not too long, nor too high. -/
theorem fit_sz : ∀ t, ∀ c high, (fitT c high t).1 = true → (fitT c high t).2 = c + szT t ∧ high + htT t ≤ 501 ∧ (fitT c high t).2 ≤ 20000 := by
  refine Tm.rule fun f n hd s lv ks ih c high h => ?_
  rw [fitT] at h ⊢
  by_cases hc : c + 1 > 20000 ∨ high > 500
  · rw [if_pos hc] at h; simp at h
  rw [if_neg hc] at h ⊢
  have key : ∀ ks', (∀ k ∈ ks', k ∈ ks) → ∀ c high, c ≤ 20000 → high ≤ 501 → (fitK c high ks').1 = true → (fitK c high ks').2 = c + szK ks' ∧ high + htK ks' ≤ 501 ∧ (fitK c high ks').2 ≤ 20000 := by
    intro ks'
    induction ks' with
    | nil => intro _ c high h1 h2 h; simp only [fitK, szK, htK]; omega
    | cons k r ih' =>
      intro hm c high h1 h2 h
      simp only [fitK] at h ⊢
      cases hk : (fitT c high k).1 with
      | false => rw [hk] at h; simp at h
      | true =>
        rw [hk] at h
        simp only [if_true] at h ⊢
        obtain ⟨a1, a2, a3⟩ := ih k (hm k (List.mem_cons_self ..)) c high hk
        obtain ⟨b1, b2, b3⟩ := ih' (fun k hk => hm k (List.mem_cons_of_mem _ hk)) _ high a3 h2 h
        simp only [szK, htK]
        omega
  obtain ⟨a1, a2, a3⟩ := key ks (fun _ h => h) (c + 1) (high + 1) (by omega) (by omega) h
  simp only [szT, htT]
  omega
theorem check_sz {r : Lv → Bool} {t : Tm} (h : checkF r t = 0) : szT t ≤ 20000 ∧ htT t ≤ 500 := by
  obtain ⟨a1, a2, a3⟩ := fit_sz t 0 1 (check_form h).1
  omega

/-! ### What the code's Map makes of a replacement -/
def putD (at_ : Int) (s : Tm) : MD := fun t deep m c =>
  if ¬ t.form = 1 ∨ t.n < at_ + deep then (none, m, c)
  else if t.n > at_ + deep then (some (varTm (t.n - 1)), m, c)
  else (some (mapT (liftD 0 deep) 0 m c s).1, (mapT (liftD 0 deep) 0 m c s).2.1, c)

theorem putD_bound (at_ : Int) (s : Tm) (t : Tm) (deep m : Int) (c : List AV) : m - szT s ≤ (putD at_ s t deep m c).2.1 ∧ (putD at_ s t deep m c).2.1 ≤ m := by
  have hb := map_bound (D := liftD 0 deep) (W := 0) (fun t deep m c => by simp [liftD]) s 0 m c
  simp only [Int.natCast_zero, Int.zero_add, Int.mul_one] at hb
  unfold putD
  split
  · simp only; omega
  split
  · simp only; omega
  · exact hb
theorem putD_c (at_ : Int) (s : Tm) (t : Tm) (deep m : Int) (c : List AV) : (putD at_ s t deep m c).2.2 = c := by
  unfold putD
  split
  · rfl
  split <;> rfl

theorem lift_neg (fr by_ : Int) : ∀ t, ∀ deep m c, 0 ≤ (mapT (liftD fr by_) deep m c t).2.1 → (mapT (liftD fr by_) deep m c t).1 = liftT fr by_ deep t := by
  refine Tm.rule fun f n hd s lv ks ih deep m c hm => ?_
  rw [mapT] at hm ⊢
  by_cases h0 : m - 1 < 0
  · rw [if_pos h0] at hm; simp only at hm; omega
  rw [if_neg h0] at hm ⊢
  rw [liftT]
  by_cases hf : f = 1 ∧ n ≥ fr + deep
  · have hD : liftD fr by_ (.mk f n hd s lv ks) deep (m - 1) c = (some (varTm (n + by_)), m - 1, c) := by
      simp only [liftD]; rw [if_pos (by exact hf)]; rfl
    rw [hD, if_pos hf]
  · have hD : liftD fr by_ (.mk f n hd s lv ks) deep (m - 1) c = (none, m - 1, c) := by
      simp only [liftD]; rw [if_neg (by exact hf)]
    rw [hD] at hm
    rw [hD, if_neg hf]
    simp only at hm ⊢
    have hle : ∀ t deep m c, (mapT (liftD fr by_) deep m c t).2.1 ≤ m := fun t deep m c => (map_bound (D := liftD fr by_) (W := 0) (fun t deep m c => by simp [liftD]) t deep m c).2
    have key : ∀ ks', (∀ k ∈ ks', k ∈ ks) → ∀ (i : Nat) m c, (mapK (liftD fr by_) f i deep m c ks').2.1 ≤ m ∧ (0 ≤ (mapK (liftD fr by_) f i deep m c ks').2.1 → (mapK (liftD fr by_) f i deep m c ks').1 = liftK fr by_ f i deep ks') := by
      intro ks'
      induction ks' with
      | nil => intro _ i m c; simp [mapK, liftK]
      | cons k r ih' =>
        intro hmem i m c
        simp only [mapK, liftK]
        obtain ⟨p1, p2⟩ := ih' (fun k hk => hmem k (List.mem_cons_of_mem _ hk)) (i + 1) (mapT (liftD fr by_) (underF f i deep) m c k).2.1 (mapT (liftD fr by_) (underF f i deep) m c k).2.2
        have := hle k (underF f i deep) m c
        refine ⟨by omega, fun h => ?_⟩
        rw [p2 h, ih k (hmem k (List.mem_cons_self ..)) _ m c (by omega)]
    rw [(key ks (fun _ h => h) 0 (m - 1) c).2 hm]

theorem put_neg (at_ : Int) (s : Tm) : ∀ t, ∀ deep m c, 0 ≤ (mapT (putD at_ s) deep m c t).2.1 → (mapT (putD at_ s) deep m c t).1 = putT at_ s deep t := by
  refine Tm.rule fun f n hd sn lv ks ih deep m c hm => ?_
  rw [mapT] at hm ⊢
  by_cases h0 : m - 1 < 0
  · rw [if_pos h0] at hm; simp only at hm; omega
  rw [if_neg h0] at hm ⊢
  rw [putT]
  by_cases hf : f = 1 ∧ n ≥ at_ + deep
  · rw [if_pos hf]
    by_cases hg : n > at_ + deep
    · have hD : putD at_ s (.mk f n hd sn lv ks) deep (m - 1) c = (some (varTm (n - 1)), m - 1, c) := by
        exact (if_neg (fun h => h.elim (fun h => h hf.1) fun h => by have : n < at_ + deep := h; omega)).trans (if_pos hg)
      rw [hD, if_pos hg]
    · have hD : putD at_ s (.mk f n hd sn lv ks) deep (m - 1) c = (some (mapT (liftD 0 deep) 0 (m - 1) c s).1, (mapT (liftD 0 deep) 0 (m - 1) c s).2.1, c) := by
        exact (if_neg (fun h => h.elim (fun h => h hf.1) fun h => by have : n < at_ + deep := h; omega)).trans (if_neg hg)
      rw [hD] at hm
      rw [hD, if_neg hg]
      exact lift_neg 0 deep s 0 (m - 1) c hm
  · have hD : putD at_ s (.mk f n hd sn lv ks) deep (m - 1) c = (none, m - 1, c) := by
      exact if_pos (show ¬ f = 1 ∨ n < at_ + deep by omega)
    rw [hD] at hm
    rw [hD, if_neg hf]
    simp only at hm ⊢
    have hle : ∀ t deep m c, (mapT (putD at_ s) deep m c t).2.1 ≤ m := fun t deep m c => (map_bound (D := putD at_ s) (putD_bound at_ s) t deep m c).2
    have key : ∀ ks', (∀ k ∈ ks', k ∈ ks) → ∀ (i : Nat) m c, (mapK (putD at_ s) f i deep m c ks').2.1 ≤ m ∧ (0 ≤ (mapK (putD at_ s) f i deep m c ks').2.1 → (mapK (putD at_ s) f i deep m c ks').1 = putK at_ s f i deep ks') := by
      intro ks'
      induction ks' with
      | nil => intro _ i m c; simp [mapK, putK]
      | cons k r ih' =>
        intro hmem i m c
        simp only [mapK, putK]
        obtain ⟨p1, p2⟩ := ih' (fun k hk => hmem k (List.mem_cons_of_mem _ hk)) (i + 1) (mapT (putD at_ s) (underF f i deep) m c k).2.1 (mapT (putD at_ s) (underF f i deep) m c k).2.2
        have := hle k (underF f i deep) m c
        refine ⟨by omega, fun h => ?_⟩
        rw [p2 h, ih k (hmem k (List.mem_cons_self ..)) _ m c (by omega)]
    rw [(key ks (fun _ h => h) 0 (m - 1) c).2 hm]

theorem check_vals (t : Tm) : checkF canF t = 0 ∨ checkF canF t = 2 ∨ checkF canF t = 10 := by
  unfold checkF
  split
  · exact .inr (.inl rfl)
  split
  · exact .inr (.inr rfl)
  · exact .inl rfl
theorem tmb_zero : Tm.All TmB zeroTm := ⟨⟨⟨by decide, by decide⟩, ⟨by decide, by decide⟩, Nat.zero_le _, by decide, by decide, fun l hl => by cases hl⟩, trivial⟩

theorem tmp_of {t : Tm} {c : List AV} (h : TmR t c) (o : ∀ y ∈ c, Old 0 y) : TmP t c := ⟨h, o⟩

def At (G : AHeap) (b : Nat) (o : AObj) : Prop := G.get b = some o ∧ b < G.next
theorem At.ext {G G1 : AHeap} {b : Nat} {o : AObj} (h : At G b o) (hE : Ext G G1) : At G1 b o := ⟨(hE.2 b h.2).trans h.1, Nat.lt_of_lt_of_le h.2 hE.1⟩
theorem At.put (G : AHeap) (o o' : AObj) : At ((G.new o).set G.next o') G.next o' := ⟨by rw [set_get, if_pos rfl], by simp⟩
theorem Ext.put1 (G : AHeap) (o o' : AObj) : Ext G ((G.new o).set G.next o') := ((Ext.refl G).new _).set (by omega) _

end Go.Proofs.Ytooaiddfokbffaa.E

/- Terms in own blocks, that may be written over. Conditions: none. -/
set_option linter.unusedVariables false
set_option linter.unusedSimpArgs false
namespace Go.Proofs.Ytooaiddfokbffaa.E
open Go Go.Proofs

/-- A row of levels in an own block. -/
def LvH (H : AHeap) (lo hi : Nat) (lv : List Lv) (x : AV) : Prop := (lv.length = 0 ∧ x = nils) ∨ ∃ b cs, lo ≤ b ∧ b < hi ∧ x = .slc b 0 2 lv.length lv.length false ∧ H.get b = some (.cells cs) ∧ LvsX lv cs

mutual
/-- A term whose rows lie in own blocks of a range, each part in a range of its own. -/
def OwnT (H : AHeap) : Tm → Nat → Nat → List AV → Prop
  | .mk f n h s lv ks, lo, hi, c => ∃ lx kx m, c = [aint f, aint n, abl h, .v (.string s), lx, kx] ∧ lo ≤ m ∧ m ≤ hi ∧ LvH H lo m lv lx ∧
      ((ks.length = 0 ∧ kx = nils) ∨ ∃ b cs, m ≤ b ∧ b < hi ∧ kx = .slc b 0 6 ks.length ks.length true ∧ H.get b = some (.cells cs) ∧ OwnK H ks (b + 1) hi cs)
def OwnK (H : AHeap) : List Tm → Nat → Nat → List AV → Prop
  | [], lo, hi, cs => cs = [] ∧ lo ≤ hi
  | k :: r, lo, hi, cs => ∃ mid c1 c2, cs = c1 ++ c2 ∧ lo ≤ mid ∧ OwnT H k lo mid c1 ∧ OwnK H r mid hi c2
end

theorem OwnT.le {H : AHeap} {t : Tm} {lo hi : Nat} {c : List AV} (h : OwnT H t lo hi c) : lo ≤ hi := by
  cases t
  simp only [OwnT] at h
  obtain ⟨lx, kx, m, _, h1, h2, _⟩ := h
  omega
theorem OwnK.le : ∀ {H : AHeap} {ks : List Tm} {lo hi : Nat} {c : List AV}, OwnK H ks lo hi c → lo ≤ hi
  | H, [], lo, hi, c, h => by simp only [OwnK] at h; exact h.2
  | H, k :: r, lo, hi, c, h => by
    simp only [OwnK] at h
    obtain ⟨mid, c1, c2, _, h1, _, h2⟩ := h
    have := OwnK.le h2
    omega
theorem OwnT.len {H : AHeap} {t : Tm} {lo hi : Nat} {c : List AV} (h : OwnT H t lo hi c) : c.length = 6 := by
  cases t
  simp only [OwnT] at h
  obtain ⟨lx, kx, m, rfl, _⟩ := h
  rfl
theorem OwnK.len : ∀ {H : AHeap} {ks : List Tm} {lo hi : Nat} {c : List AV}, OwnK H ks lo hi c → c.length = ks.length * 6
  | H, [], lo, hi, c, h => by simp only [OwnK] at h; rw [h.1]; rfl
  | H, k :: r, lo, hi, c, h => by
    simp only [OwnK] at h
    obtain ⟨mid, c1, c2, rfl, h1, h3, h2⟩ := h
    rw [List.length_append, h3.len, OwnK.len h2, List.length_cons]; omega

theorem LvH.frame {H G : AHeap} {lo hi : Nat} {lv : List Lv} {x : AV} (h : LvH H lo hi lv x) (hf : ∀ b, lo ≤ b → b < hi → G.get b = H.get b) : LvH G lo hi lv x := by
  rcases h with h | ⟨b, cs, h1, h2, h3, h4, h5⟩
  · exact .inl h
  · exact .inr ⟨b, cs, h1, h2, h3, by rw [hf b h1 h2]; exact h4, h5⟩
mutual
theorem OwnT.frame {H G : AHeap} : ∀ {t : Tm} {lo hi : Nat} {c : List AV}, OwnT H t lo hi c → (∀ b, lo ≤ b → b < hi → G.get b = H.get b) → OwnT G t lo hi c
  | .mk f n h s lv ks, lo, hi, c, ho, hf => by
    simp only [OwnT] at ho ⊢
    obtain ⟨lx, kx, m, rfl, h1, h2, h3, h4⟩ := ho
    refine ⟨lx, kx, m, rfl, h1, h2, h3.frame fun b q1 q2 => hf b q1 (by omega), ?_⟩
    rcases h4 with h4 | ⟨b, cs, g1, g2, g3, g4, g5⟩
    · exact .inl h4
    · exact .inr ⟨b, cs, g1, g2, g3, by rw [hf b (by omega) g2]; exact g4, OwnK.frame g5 fun b' q1 q2 => hf b' (by omega) q2⟩
theorem OwnK.frame {H G : AHeap} : ∀ {ks : List Tm} {lo hi : Nat} {c : List AV}, OwnK H ks lo hi c → (∀ b, lo ≤ b → b < hi → G.get b = H.get b) → OwnK G ks lo hi c
  | [], lo, hi, c, ho, hf => by simp only [OwnK] at ho ⊢; exact ho
  | k :: r, lo, hi, c, ho, hf => by
    simp only [OwnK] at ho ⊢
    obtain ⟨mid, c1, c2, rfl, h1, h3, h2⟩ := ho
    have := OwnK.le h2
    exact ⟨mid, c1, c2, rfl, h1, OwnT.frame h3 fun b q1 q2 => hf b q1 (by omega), OwnK.frame h2 fun b q1 q2 => hf b (by omega) q2⟩
end

theorem OwnK.snoc : ∀ {H : AHeap} {ks : List Tm} {lo mid hi : Nat} {cs c : List AV} {k : Tm}, OwnK H ks lo mid cs → OwnT H k mid hi c → OwnK H (ks ++ [k]) lo hi (cs ++ c)
  | H, [], lo, mid, hi, cs, c, k, h1, h2 => by
    simp only [OwnK] at h1
    obtain ⟨rfl, hle⟩ := h1
    simp only [List.nil_append, OwnK]
    refine ⟨hi, c, [], by simp, by have := h2.le; omega, ?_, rfl, Nat.le_refl _⟩
    cases k
    simp only [OwnT] at h2 ⊢
    obtain ⟨lx, kx, m, rfl, q1, q2, q3, q4⟩ := h2
    refine ⟨lx, kx, m, rfl, by omega, q2, ?_, q4⟩
    rcases q3 with q3 | ⟨b, cs, g1, g2⟩
    · exact .inl q3
    · exact .inr ⟨b, cs, by omega, g2⟩
  | H, k0 :: r, lo, mid, hi, cs, c, k, h1, h2 => by
    simp only [OwnK] at h1
    obtain ⟨mid', c1, c2, rfl, q1, q2, q3⟩ := h1
    simp only [List.cons_append, OwnK]
    exact ⟨mid', c1, c2 ++ c, by simp, q1, q2, q3.snoc h2⟩

/-! ### Read only, they are terms -/
theorem varsC_v : ∀ (vars : List (Int × Int)) (i : Nat) (y : AV), (varsC vars)[i]? = some y → ∃ v, y = .v v
  | [], i, y, h => by simp [varsC] at h
  | v :: r, 0, y, h => by rw [varsC_cons] at h; simp at h; exact ⟨_, h.symm⟩
  | v :: r, 1, y, h => by rw [varsC_cons] at h; simp at h; exact ⟨_, h.symm⟩
  | v :: r, i + 2, y, h => by rw [varsC_cons] at h; exact varsC_v r i y (by simpa using h)
theorem slv_frz {H : AHeap} {vars : List (Int × Int)} {y : AV} (h : SlV vars y) : ∃ z, Frz H y z ∧ SlR vars.length z (varsC vars) := by
  obtain ⟨⟨cs, h1, h2⟩, _⟩ := h
  rcases h1 with ⟨h0, rfl⟩ | ⟨lo, ex, rfl, hlo⟩
  · exact ⟨_, .v _, .inl ⟨h0, rfl⟩⟩
  · refine ⟨.ro vars.length lo ex (varsC vars), .ro _ _ _ _ _ (by rw [varsC_length]; exact h2.len) fun i x y hx hy => ?_, .inr ⟨lo, ex, rfl, hlo⟩⟩
    have hp := h2.pre
    have hi : i < vars.length * 2 := by
      have := (List.getElem?_eq_some_iff.1 hy).1
      rw [varsC_length] at this; exact this
    have hx2 : (cs.take (vars.length * 2))[i]? = some x := by rw [List.getElem?_take, if_pos hi]; exact hx
    rw [hp, hy] at hx2
    injection hx2 with hx2
    subst hx2
    obtain ⟨v, rfl⟩ := varsC_v vars i y hy
    exact .v _
theorem lvs_frz {H : AHeap} : ∀ {lv : List Lv} {cs : List AV}, LvsX lv cs → ∃ ys, FrzL H cs ys ∧ LvsR lv ys
  | [], cs, h => by simp only [LvsX] at h; subst h; exact ⟨[], FrzL.nil H, trivial⟩
  | l :: r, cs, h => by
    simp only [LvsX] at h
    obtain ⟨y, cs', rfl, h1, h2⟩ := h
    obtain ⟨ys, h3, h4⟩ := lvs_frz (H := H) h2
    obtain ⟨z, h5, h6⟩ := slv_frz (H := H) h1
    exact ⟨aint l.n :: z :: ys, FrzL.cons (.v _) (FrzL.cons h5 h3), ⟨z, varsC l.vars, rfl, h6, varsR_self _⟩, h4⟩
theorem lvh_frz {H : AHeap} {lo hi : Nat} {lv : List Lv} {x : AV} (h : LvH H lo hi lv x) : ∃ z cs, Frz H x z ∧ SlR lv.length z cs ∧ LvsR lv cs := by
  rcases h with ⟨h0, rfl⟩ | ⟨b, cs, _, _, rfl, h4, h5⟩
  · rw [List.length_eq_zero_iff.1 h0]
    exact ⟨_, [], .v _, .inl ⟨rfl, rfl⟩, trivial⟩
  · obtain ⟨ys, h6, h7⟩ := lvs_frz (H := H) h5
    exact ⟨_, ys, Frz.block h4 h6 2 _ _ _, .inr ⟨_, _, rfl, Nat.le_refl _⟩, h7⟩

theorem FrzL.app {H : AHeap} {a b c d : List AV} (h1 : FrzL H a c) (h2 : FrzL H b d) : FrzL H (a ++ b) (c ++ d) := by
  refine ⟨by rw [List.length_append, List.length_append, h1.1, h2.1], fun i x y hx hy => ?_⟩
  rcases Nat.lt_or_ge i a.length with h | h
  · rw [List.getElem?_append_left h] at hx
    rw [List.getElem?_append_left (by rw [h1.1]; exact h)] at hy
    exact h1.2 i x y hx hy
  · rw [List.getElem?_append_right h] at hx
    rw [List.getElem?_append_right (by rw [h1.1]; exact h), h1.1] at hy
    exact h2.2 _ x y hx hy

theorem ksR_cons {k : Tm} {ks : List Tm} {a b : List AV} (h1 : TmR k a) (hl : a.length = 6) (h2 : KsR ks b) : KsR (k :: ks) (a ++ b) := by
  simp only [KsR]
  rw [List.take_append_of_le_length (by omega), List.take_of_length_le (by omega), List.drop_append_of_le_length (by omega), List.drop_of_length_le (by omega), List.nil_append]
  exact ⟨h1, h2⟩

mutual
theorem OwnT.rep {H : AHeap} : ∀ {t : Tm} {lo hi : Nat} {c : List AV}, OwnT H t lo hi c → Rep H c t
  | .mk f n h s lv ks, lo, hi, c, ho => by
    simp only [OwnT] at ho
    obtain ⟨lx, kx, m, rfl, h1, h2, h3, h4⟩ := ho
    obtain ⟨zl, ls, q1, q2, q3⟩ := lvh_frz h3
    have key : ∃ zk cs, Frz H kx zk ∧ SlR ks.length zk cs ∧ KsR ks cs := by
      rcases h4 with ⟨h0, rfl⟩ | ⟨b, cs, g1, g2, rfl, g4, g5⟩
      · rw [List.length_eq_zero_iff.1 h0]
        exact ⟨_, [], .v _, .inl ⟨rfl, rfl⟩, trivial⟩
      · obtain ⟨ys, r1, r2⟩ := OwnK.rep g5
        exact ⟨_, ys, Frz.block g4 r1 6 _ _ _, .inr ⟨_, _, rfl, Nat.le_refl _⟩, r2⟩
    obtain ⟨zk, cs, p1, p2, p3⟩ := key
    refine ⟨[aint f, aint n, abl h, .v (.string s), zl, zk], FrzL.cons (.v _) (FrzL.cons (.v _) (FrzL.cons (.v _) (FrzL.cons (.v _) (FrzL.cons q1 (FrzL.cons p1 (FrzL.nil H)))))), ?_⟩
    simp only [TmR]
    exact ⟨zl, zk, ls, cs, rfl, q2, q3, p2, p3⟩
theorem OwnK.rep {H : AHeap} : ∀ {ks : List Tm} {lo hi : Nat} {c : List AV}, OwnK H ks lo hi c → ∃ ys, FrzL H c ys ∧ KsR ks ys
  | [], lo, hi, c, ho => by simp only [OwnK] at ho; rw [ho.1]; exact ⟨[], FrzL.nil H, trivial⟩
  | k :: r, lo, hi, c, ho => by
    simp only [OwnK] at ho
    obtain ⟨mid, c1, c2, rfl, h1, h3, h2⟩ := ho
    obtain ⟨ya, a1, a2⟩ := OwnT.rep h3
    obtain ⟨yb, b1, b2⟩ := OwnK.rep h2
    exact ⟨ya ++ yb, FrzL.app a1 b1, ksR_cons a2 (by rw [a1.1, h3.len]) b2⟩
end
end Go.Proofs.Ytooaiddfokbffaa.E

/- Copies in own blocks. Conditions: none. -/
set_option linter.unusedVariables false
set_option linter.unusedSimpArgs false
namespace Go.Proofs.Ytooaiddfokbffaa.E
open Go Go.Proofs
attribute [local go_sem] s_seq s_ops s_draw s_block s_skip s_ret s_exit i_nil i_cons i_run i_runG s_condQ c_true c_false aop ev_t ev_c updO_at updO_no upd_at t_normal t_ret t_exit b_normal b_ret b_exit a_some ac_v ac_agg ac_ptr ac_slc ac_ro ac_rop ac_fn new_next set_next argTm_zero argTm_succ argTm_nil ab_bool ab_uv beq_self_eq_true Option.some_beq_some Bool.not_not beq_iff_eq decide_true decide_false Bool.not_true Bool.not_false afld aload astore apack alen_str alen_ro alen_slc alen_nil new_get set_get ite_true ite_false Option.map_some Option.bind_some ibin isShift Nat.add_zero Nat.zero_add List.length_cons List.length_nil List.drop_zero List.drop_succ_cons List.take_succ_cons List.take_zero if_true if_false setL List.set_cons_zero List.set_cons_succ List.all_cons List.all_nil one_int one_bool one_str one_nil one_ptr one_slc one_ro one_rop one_fn Bool.and_self Bool.and_true true_and and_true and_self Bool.false_eq_true post_ret post_normal resAll resOne packR Option.some.injEq exists_eq_left' List.map_cons List.map_nil List.nil_append List.append_nil List.cons_append d_nil d_cons k_nil k_cons g_op g_same g_new avBlock forall_eq' List.getElem?_cons_succ List.getElem?_cons_zero List.getElem?_nil okind gOk bne false_imp_iff forall_const imp_self implies_true true_imp_iff i_callG

theorem own_bare {G : AHeap} {f n : Int} {h : Bool} {s : ByteArray} {lo : Nat} (hi : Nat) (hle : lo ≤ hi) : OwnT G (.mk f n h s [] []) lo hi [aint f, aint n, abl h, .v (.string s), nils, nils] := by
  simp only [OwnT]
  exact ⟨nils, nils, lo, rfl, Nat.le_refl _, hle, .inl ⟨rfl, rfl⟩, .inl ⟨rfl, rfl⟩⟩
theorem own_lv {G : AHeap} {f n : Int} {h : Bool} {s : ByteArray} {lv : List Lv} {base lo : Nat} {cs : List AV} {y : AV} (hO : OutS G base 2 lv.length cs y) (hX : LvsX lv cs) (hlo : lo ≤ base ∧ base ≤ G.next) : OwnT G (.mk f n h s lv []) lo G.next [aint f, aint n, abl h, .v (.string s), y, nils] := by
  simp only [OwnT]
  refine ⟨y, nils, G.next, rfl, by omega, Nat.le_refl _, ?_, .inl ⟨rfl, rfl⟩⟩
  rcases hO with ⟨h0, rfl, rfl⟩ | ⟨b, h1, h2, rfl, h3, h4⟩
  · exact .inl ⟨h0, rfl⟩
  · exact .inr ⟨b, cs, by omega, h2, rfl, h3, hX⟩

set_option maxRecDepth 100000 in
theorem levelsU (lv : List Lv) (lx : AV) (ls : List AV) (h1 : SlR lv.length lx ls) (h2 : LvsR lv ls) (hn : lv.length * 32 ≤ 140737488351232) (hv : ∀ l ∈ lv, l.vars.length * 16 ≤ 140737488351232) (H : AHeap) :
    SCall Try.prog 197 [lx] H fun y H' => Ext H H' ∧ ∃ cs, LvsX lv cs ∧ OutS H' H.next 2 lv.length cs y := by
  refine SCall.intro mixed cf197 ?_
  simp -implicitDefEqProofs only [c197, go_sem, Nat.reduceEqDiff, Nat.reduceAdd, Nat.reduceLeDiff, ↓reduceIte, reduceCtorEq, Int.reduceBEq, Int.reduceBNe, Int.reduceLT, Int.reduceLE, Int.reduceGT, Int.reduceGE, Int.reduceNeg, Int.reduceAdd, Int.reduceSub, Nat.reduceMul, Nat.reduceLT, Int.reduceToNat, fun H => h1.alen H]
  refine swp_range lv.length (fun i st => st.tm 6 = lx ∧ st.tm 7 = aint lv.length ∧ st.tm 8 = aint i ∧ Ext H st.heap ∧ ∃ x cs, st.tm 3 = x ∧ LvsX (lv.take i) cs ∧ OutS st.heap H.next 2 i cs x) ?_ ?_ ?_
  · exact ⟨rfl, rfl, rfl, Ext.refl H, _, [], rfl, rfl, .nil⟩
  · rintro i ⟨tm, H2⟩ hi ⟨t6, t7, t8, hE, x, cs, t3, hX, hO⟩
    simp only at t3 t6 t7 t8 hE hO
    have hltI : (i : Int) < (lv.length : Int) := by omega
    have hix := h1.aix 2 hi
    obtain ⟨vx, vs, hle, hld, hv1, hv2⟩ := h2.at (List.getElem?_eq_getElem hi)
    have w3 : IntKind.i64.wrap ((i : Int) + 1) = (i : Int) + 1 := i64_ok _ (by omega)
    have hXl := hX.len
    rw [List.length_take, Nat.min_eq_left (by omega)] at hXl
    simp -implicitDefEqProofs only [go_sem, Nat.reduceEqDiff, Nat.reduceAdd, Nat.reduceLeDiff, ↓reduceIte, reduceCtorEq, Int.reduceBEq, Int.reduceBNe, Int.reduceLT, Int.reduceLE, Int.reduceGT, Int.reduceGE, Int.reduceNeg, Int.reduceAdd, Int.reduceSub, Nat.reduceMul, Nat.reduceLT, Int.reduceToNat, t3, t6, t7, t8, hltI, hix, hle, hld, hv1.one, hv1.cells]
    refine i_callA (fs := []) (cs := []) (fid := 211) ?_ ?_ (clone_ok lv[i].vars vx vs hv1 hv2 (hv _ (List.getElem_mem hi)) _) ?_
    · rfl
    · simp -implicitDefEqProofs only [go_sem, Nat.reduceEqDiff, Nat.reduceAdd, Nat.reduceLeDiff, ↓reduceIte, reduceCtorEq, Int.reduceBEq, Int.reduceBNe, Int.reduceLT, Int.reduceLE, Int.reduceGT, Int.reduceGE, Int.reduceNeg, Int.reduceAdd, Int.reduceSub, Nat.reduceMul, Nat.reduceLT, Int.reduceToNat]
    rintro y H3 ⟨hy, rfl⟩
    simp -implicitDefEqProofs only [go_sem, Nat.reduceEqDiff, Nat.reduceAdd, Nat.reduceLeDiff, ↓reduceIte, reduceCtorEq, Int.reduceBEq, Int.reduceBNe, Int.reduceLT, Int.reduceLE, Int.reduceGT, Int.reduceGE, Int.reduceNeg, Int.reduceAdd, Int.reduceSub, Nat.reduceMul, Nat.reduceLT, Int.reduceToNat, t3, t6, t7, t8, slv_one hy, slv_cells hy, afill]
    refine (((hO.new _).set hO.nothere _).new _).step (m := 1) (new := [aint lv[i].n, y]) (asrc_slc (c := [aint lv[i].n, y]) (by rw [new_get]; exact if_pos rfl) (by simp)) (by simp [slv_one hy, one_int]) (by omega) (by omega) ⟨by omega, by omega⟩ rfl (by rw [new_next, set_next, new_next]; have := hE.1; omega) fun x' G' q6 q7 q8 => ?_
    rw [new_next, set_next, new_next] at q7
    have hEG : Ext H G' := ⟨by have := hE.1; omega, fun b hb => by
      have hb2 := hE.1
      rw [q8 b (by rw [new_next, set_next, new_next]; omega) (hO.notlow (by omega)), new_get, if_neg (by rw [set_next, new_next]; omega), set_get, if_neg (by omega), new_get, if_neg (by omega)]
      exact hE.2 b hb⟩
    simp -implicitDefEqProofs only [go_sem, Nat.reduceEqDiff, Nat.reduceAdd, Nat.reduceLeDiff, ↓reduceIte, reduceCtorEq, Int.reduceBEq, Int.reduceBNe, Int.reduceLT, Int.reduceLE, Int.reduceGT, Int.reduceGE, Int.reduceNeg, Int.reduceAdd, Int.reduceSub, Nat.reduceMul, Nat.reduceLT, Int.reduceToNat, t8, w3]
    refine ⟨t6, t7, by simp, hEG, _, cs ++ [aint lv[i].n, y], rfl, ?_, q6⟩
    rw [List.take_succ_eq_append_getElem hi]
    exact hX.snoc hy
  · rintro ⟨tm, H2⟩ ⟨t6, t7, t8, hE, x, cs, t3, hX, hO⟩
    simp only at t3 t6 t7 t8 hE hO
    rw [List.take_length] at hX
    simp -implicitDefEqProofs only [go_sem, Nat.reduceEqDiff, Nat.reduceAdd, Nat.reduceLeDiff, ↓reduceIte, reduceCtorEq, Int.reduceBEq, Int.reduceBNe, Int.reduceLT, Int.reduceLE, Int.reduceGT, Int.reduceGE, Int.reduceNeg, Int.reduceAdd, Int.reduceSub, Nat.reduceMul, Nat.reduceLT, Int.reduceToNat, t3, t6, t7, t8, Int.lt_irrefl]
    exact ⟨hE, cs, hX, hO⟩

set_option maxRecDepth 100000 in
theorem bareU (t : Tm) (hb : TmB t) (cells : List AV) (hT : TmR t cells) (H : AHeap) : SCall Try.prog 171 [.agg cells] H fun x H' => (∃ c, x = .agg c ∧ OwnT H' (bareT t) H.next H'.next c) ∧ Ext H H' := by
  obtain ⟨f, n, hid, s, lv, ks⟩ := t
  obtain ⟨lx, kx, ls, cs, rfl, hl1, hl2, hk1, hk2⟩ := hT.six
  simp only [TmB, Tm.form, Tm.n, Tm.hid, Tm.name, Tm.lv, Tm.kids] at *
  obtain ⟨_, _, a1, a2, a3, a4⟩ := hb
  have hlb : ∀ l ∈ lv, l.vars.length * 16 ≤ 140737488351232 := fun l hl => (a4 l hl).2.1
  have e1 : ¬ H.next = H.next + 1 := by omega
  have e2 : ¬ H.next + 1 = H.next := by omega
  have e3 : ¬ H.next = H.next + 1 + 1 := by omega
  have e4 : ¬ H.next + 1 = H.next + 1 + 1 := by omega
  have e5 : ¬ H.next + 1 + 1 = H.next := by omega
  have e6 : ¬ H.next + 1 + 1 = H.next + 1 := by omega
  have hE : ∀ o1 o2 o3 o4 o5 o6, Ext H ((((((H.new o1).new o2).new o3).set (H.next + 1 + 1) o4).set (H.next + 1 + 1) o5).set (H.next + 1) o6) := fun o1 o2 o3 o4 o5 o6 => (((((Ext.refl H).new _).new _).new _).set (by omega) _).set (by omega) _ |>.set (by omega) _
  have hE7 : ∀ o1 o2 o3 o4 o5 o6 o7, Ext H (((((((H.new o1).new o2).new o3).set (H.next + 1 + 1) o4).set (H.next + 1 + 1) o5).set (H.next + 1 + 1) o6).set (H.next + 1) o7) := fun o1 o2 o3 o4 o5 o6 o7 => (((((Ext.refl H).new _).new _).new _).set (by omega) _).set (by omega) _ |>.set (by omega) _ |>.set (by omega) _
  have hE4 : ∀ o1 o2 o3 o4 o5, Ext H (((((H.new o1).new o2).new o3).set (H.next + 1 + 1) o4).set (H.next + 1) o5) := fun o1 o2 o3 o4 o5 => (((((Ext.refl H).new _).new _).new _).set (by omega) _).set (by omega) _
  have main : SCall Try.prog 171 [.agg [aint f, aint n, abl hid, .v (.string s), lx, kx]] H fun x H' => (∃ c, x = .agg c ∧ OwnT H' (bareT (.mk f n hid s lv ks)) H.next H'.next c) ∧ Ext H H' := by
    refine SCall.intro mixed cf171 ?_
    by_cases c1 : f = 1 ∨ f = 11
    · have hbt : bareT (.mk f n hid s lv ks) = .mk f n false zeroS [] [] := by
        simp only [bareT]
        rcases c1 with rfl | rfl <;> rfl
      rw [hbt]
      rcases c1 with rfl | rfl
      · simp -implicitDefEqProofs only [c171, go_sem, Nat.reduceEqDiff, Nat.reduceAdd, Nat.reduceLeDiff, ↓reduceIte, reduceCtorEq, Int.reduceBEq, Int.reduceBNe, Int.reduceLT, Int.reduceLE, Int.reduceGT, Int.reduceGE, Int.reduceNeg, Int.reduceAdd, Int.reduceSub, Nat.reduceMul, Nat.reduceLT, Int.reduceToNat, hl1.one, hl1.cells, hk1.one, hk1.cells, afill, e1, e2, e3, e4, e5, e6]
        refine ⟨⟨_, rfl, own_bare _ ?_⟩, hE _ _ _ _ _ _⟩
        first | omega | (simp only [set_next, new_next]; omega)
      · simp -implicitDefEqProofs only [c171, go_sem, Nat.reduceEqDiff, Nat.reduceAdd, Nat.reduceLeDiff, ↓reduceIte, reduceCtorEq, Int.reduceBEq, Int.reduceBNe, Int.reduceLT, Int.reduceLE, Int.reduceGT, Int.reduceGE, Int.reduceNeg, Int.reduceAdd, Int.reduceSub, Nat.reduceMul, Nat.reduceLT, Int.reduceToNat, hl1.one, hl1.cells, hk1.one, hk1.cells, afill, e1, e2, e3, e4, e5, e6]
        refine ⟨⟨_, rfl, own_bare _ ?_⟩, hE _ _ _ _ _ _⟩
        first | omega | (simp only [set_next, new_next]; omega)
    by_cases c2 : f = 3 ∨ f = 4 ∨ f = 5
    · have hbt : bareT (.mk f n hid s lv ks) = .mk f 0 hid zeroS [] [] := by
        simp only [bareT]
        rcases c2 with rfl | rfl | rfl <;> rfl
      rw [hbt]
      rcases c2 with rfl | rfl | rfl
      · simp -implicitDefEqProofs only [c171, go_sem, Nat.reduceEqDiff, Nat.reduceAdd, Nat.reduceLeDiff, ↓reduceIte, reduceCtorEq, Int.reduceBEq, Int.reduceBNe, Int.reduceLT, Int.reduceLE, Int.reduceGT, Int.reduceGE, Int.reduceNeg, Int.reduceAdd, Int.reduceSub, Nat.reduceMul, Nat.reduceLT, Int.reduceToNat, hl1.one, hl1.cells, hk1.one, hk1.cells, afill, e1, e2, e3, e4, e5, e6]
        refine ⟨⟨_, rfl, own_bare _ ?_⟩, hE _ _ _ _ _ _⟩
        first | omega | (simp only [set_next, new_next]; omega)
      · simp -implicitDefEqProofs only [c171, go_sem, Nat.reduceEqDiff, Nat.reduceAdd, Nat.reduceLeDiff, ↓reduceIte, reduceCtorEq, Int.reduceBEq, Int.reduceBNe, Int.reduceLT, Int.reduceLE, Int.reduceGT, Int.reduceGE, Int.reduceNeg, Int.reduceAdd, Int.reduceSub, Nat.reduceMul, Nat.reduceLT, Int.reduceToNat, hl1.one, hl1.cells, hk1.one, hk1.cells, afill, e1, e2, e3, e4, e5, e6]
        refine ⟨⟨_, rfl, own_bare _ ?_⟩, hE _ _ _ _ _ _⟩
        first | omega | (simp only [set_next, new_next]; omega)
      · simp -implicitDefEqProofs only [c171, go_sem, Nat.reduceEqDiff, Nat.reduceAdd, Nat.reduceLeDiff, ↓reduceIte, reduceCtorEq, Int.reduceBEq, Int.reduceBNe, Int.reduceLT, Int.reduceLE, Int.reduceGT, Int.reduceGE, Int.reduceNeg, Int.reduceAdd, Int.reduceSub, Nat.reduceMul, Nat.reduceLT, Int.reduceToNat, hl1.one, hl1.cells, hk1.one, hk1.cells, afill, e1, e2, e3, e4, e5, e6]
        refine ⟨⟨_, rfl, own_bare _ ?_⟩, hE _ _ _ _ _ _⟩
        first | omega | (simp only [set_next, new_next]; omega)
    by_cases c3 : f = 2
    · subst c3
      have hbt : bareT (.mk 2 n hid s lv ks) = .mk 2 0 false zeroS lv [] := rfl
      rw [hbt]
      simp -implicitDefEqProofs only [c171, go_sem, Nat.reduceEqDiff, Nat.reduceAdd, Nat.reduceLeDiff, ↓reduceIte, reduceCtorEq, Int.reduceBEq, Int.reduceBNe, Int.reduceLT, Int.reduceLE, Int.reduceGT, Int.reduceGE, Int.reduceNeg, Int.reduceAdd, Int.reduceSub, Nat.reduceMul, Nat.reduceLT, Int.reduceToNat, hl1.one, hl1.cells, hk1.one, hk1.cells, afill, e1, e2, e3, e4, e5, e6]
      refine i_callA (fs := []) (cs := []) (fid := 197) ?_ ?_ (levelsU lv lx ls hl1 hl2 a2 hlb _) ?_
      · rfl
      · simp -implicitDefEqProofs only [go_sem, Nat.reduceEqDiff, Nat.reduceAdd, Nat.reduceLeDiff, ↓reduceIte, reduceCtorEq, Int.reduceBEq, Int.reduceBNe, Int.reduceLT, Int.reduceLE, Int.reduceGT, Int.reduceGE, Int.reduceNeg, Int.reduceAdd, Int.reduceSub, Nat.reduceMul, Nat.reduceLT, Int.reduceToNat]
      rintro y H3 ⟨hE3, cs, hX, hO⟩
      have nx : H.next + 1 + 1 + 1 ≤ H3.next := hE3.1
      have f0 := hE3.2 H.next (by simp only [set_next, new_next]; omega)
      have f1 := hE3.2 (H.next + 1) (by simp only [set_next, new_next]; omega)
      have f2 := hE3.2 (H.next + 1 + 1) (by simp only [set_next, new_next]; omega)
      have hEH : Ext H H3 := Ext.trans ((((Ext.refl H).new _).new _).new _ |>.set (by omega) _) hE3
      have hn1 : ∀ off es' n' lo ex, y ≠ .slc (H.next + 1) off es' n' lo ex := hO.notlow (by simp only [set_next, new_next]; omega)
      have hn2 : ∀ off es' n' lo ex, y ≠ .slc (H.next + 1 + 1) off es' n' lo ex := hO.notlow (by simp only [set_next, new_next]; omega)
      simp only [set_get, new_get, set_next, new_next, e1, e2, e3, e4, e5, e6, if_true, if_false] at f0 f1 f2
      simp -implicitDefEqProofs only [go_sem, Nat.reduceEqDiff, Nat.reduceAdd, Nat.reduceLeDiff, ↓reduceIte, reduceCtorEq, Int.reduceBEq, Int.reduceBNe, Int.reduceLT, Int.reduceLE, Int.reduceGT, Int.reduceGE, Int.reduceNeg, Int.reduceAdd, Int.reduceSub, Nat.reduceMul, Nat.reduceLT, Int.reduceToNat, hO.one, hO.cells, hl1.one, hl1.cells, hk1.one, hk1.cells, f0, f1, f2, e1, e2, e3, e4, e5, e6]
      exact ⟨⟨_, rfl, own_lv ((hO.set hn2 _).set hn1 _) hX (by simp only [set_next, new_next]; omega)⟩, (hEH.set (by omega) _).set (by omega) _⟩
    by_cases c4 : f = 10
    · subst c4
      have hbt : bareT (.mk 10 n hid s lv ks) = .mk 10 0 false s lv [] := rfl
      rw [hbt]
      simp -implicitDefEqProofs only [c171, go_sem, Nat.reduceEqDiff, Nat.reduceAdd, Nat.reduceLeDiff, ↓reduceIte, reduceCtorEq, Int.reduceBEq, Int.reduceBNe, Int.reduceLT, Int.reduceLE, Int.reduceGT, Int.reduceGE, Int.reduceNeg, Int.reduceAdd, Int.reduceSub, Nat.reduceMul, Nat.reduceLT, Int.reduceToNat, hl1.one, hl1.cells, hk1.one, hk1.cells, afill, e1, e2, e3, e4, e5, e6]
      refine i_callA (fs := []) (cs := []) (fid := 197) ?_ ?_ (levelsU lv lx ls hl1 hl2 a2 hlb _) ?_
      · rfl
      · simp -implicitDefEqProofs only [go_sem, Nat.reduceEqDiff, Nat.reduceAdd, Nat.reduceLeDiff, ↓reduceIte, reduceCtorEq, Int.reduceBEq, Int.reduceBNe, Int.reduceLT, Int.reduceLE, Int.reduceGT, Int.reduceGE, Int.reduceNeg, Int.reduceAdd, Int.reduceSub, Nat.reduceMul, Nat.reduceLT, Int.reduceToNat]
      rintro y H3 ⟨hE3, cs, hX, hO⟩
      have nx : H.next + 1 + 1 + 1 ≤ H3.next := hE3.1
      have f0 := hE3.2 H.next (by simp only [set_next, new_next]; omega)
      have f1 := hE3.2 (H.next + 1) (by simp only [set_next, new_next]; omega)
      have f2 := hE3.2 (H.next + 1 + 1) (by simp only [set_next, new_next]; omega)
      have hEH : Ext H H3 := Ext.trans ((((Ext.refl H).new _).new _).new _ |>.set (by omega) _) hE3
      have hn1 : ∀ off es' n' lo ex, y ≠ .slc (H.next + 1) off es' n' lo ex := hO.notlow (by simp only [set_next, new_next]; omega)
      have hn2 : ∀ off es' n' lo ex, y ≠ .slc (H.next + 1 + 1) off es' n' lo ex := hO.notlow (by simp only [set_next, new_next]; omega)
      simp only [set_get, new_get, set_next, new_next, e1, e2, e3, e4, e5, e6, if_true, if_false] at f0 f1 f2
      simp -implicitDefEqProofs only [go_sem, Nat.reduceEqDiff, Nat.reduceAdd, Nat.reduceLeDiff, ↓reduceIte, reduceCtorEq, Int.reduceBEq, Int.reduceBNe, Int.reduceLT, Int.reduceLE, Int.reduceGT, Int.reduceGE, Int.reduceNeg, Int.reduceAdd, Int.reduceSub, Nat.reduceMul, Nat.reduceLT, Int.reduceToNat, hO.one, hO.cells, hl1.one, hl1.cells, hk1.one, hk1.cells, f0, f1, f2, e1, e2, e3, e4, e5, e6]
      exact ⟨⟨_, rfl, own_lv (((hO.set hn2 _).set hn2 _).set hn1 _) hX (by simp only [set_next, new_next]; omega)⟩, ((hEH.set (by omega) _).set (by omega) _).set (by omega) _⟩
    · have hbt : bareT (.mk f n hid s lv ks) = .mk f 0 false zeroS [] [] := by
        simp only [bareT]
        rw [if_neg c1, if_neg c2, if_neg c4, if_neg (by rintro (h | h); exact c3 h; exact c4 h)]
      rw [hbt]
      simp -implicitDefEqProofs only [c171, go_sem, Nat.reduceEqDiff, Nat.reduceAdd, Nat.reduceLeDiff, ↓reduceIte, reduceCtorEq, Int.reduceBEq, Int.reduceBNe, Int.reduceLT, Int.reduceLE, Int.reduceGT, Int.reduceGE, Int.reduceNeg, Int.reduceAdd, Int.reduceSub, Nat.reduceMul, Nat.reduceLT, Int.reduceToNat, hl1.one, hl1.cells, hk1.one, hk1.cells, afill, e1, e2, e3, e4, e5, e6, bne' (fun h => c1 (.inl h)), bne' (fun h => c1 (.inr h)), bne' (fun h => c2 (.inl h)), bne' (fun h => c2 (.inr (.inl h))), bne' (fun h => c2 (.inr (.inr h))), bne' c3, bne' c4]
      refine ⟨⟨_, rfl, own_bare _ ?_⟩, hE4 _ _ _ _ _⟩
      first | omega | (simp only [set_next, new_next]; omega)
  exact main
end Go.Proofs.Ytooaiddfokbffaa.E

/- A term copied into own blocks, by the code's Map. Conditions: none. -/
set_option linter.unusedVariables false
set_option linter.unusedSimpArgs false
namespace Go.Proofs.Ytooaiddfokbffaa.E
open Go Go.Proofs
attribute [local go_sem] s_seq s_ops s_draw s_block s_skip s_ret s_exit i_nil i_cons i_run i_runG s_condQ c_true c_false aop ev_t ev_c updO_at updO_no upd_at t_normal t_ret t_exit b_normal b_ret b_exit a_some ac_v ac_agg ac_ptr ac_slc ac_ro ac_rop ac_fn new_next set_next argTm_zero argTm_succ argTm_nil ab_bool ab_uv beq_self_eq_true Option.some_beq_some Bool.not_not beq_iff_eq decide_true decide_false Bool.not_true Bool.not_false afld aload astore apack alen_str alen_ro alen_slc alen_nil new_get set_get ite_true ite_false Option.map_some Option.bind_some ibin isShift Nat.add_zero Nat.zero_add List.length_cons List.length_nil List.drop_zero List.drop_succ_cons List.take_succ_cons List.take_zero if_true if_false setL List.set_cons_zero List.set_cons_succ List.all_cons List.all_nil one_int one_bool one_str one_nil one_ptr one_slc one_ro one_rop one_fn Bool.and_self Bool.and_true true_and and_true and_self Bool.false_eq_true post_ret post_normal resAll resOne packR Option.some.injEq exists_eq_left' List.map_cons List.map_nil List.nil_append List.append_nil List.cons_append d_nil d_cons k_nil k_cons g_op g_same g_new avBlock forall_eq' List.getElem?_cons_succ List.getElem?_cons_zero List.getElem?_nil okind gOk bne false_imp_iff forall_const imp_self implies_true true_imp_iff i_callG

theorem OwnT.low {H : AHeap} {t : Tm} {lo lo' hi : Nat} {c : List AV} (h : OwnT H t lo hi c) (hl : lo' ≤ lo) : OwnT H t lo' hi c := by
  cases t
  simp only [OwnT] at h ⊢
  obtain ⟨lx, kx, m, rfl, q1, q2, q3, q4⟩ := h
  refine ⟨lx, kx, m, rfl, by omega, q2, ?_, q4⟩
  rcases q3 with q3 | ⟨b, cs, g1, g2⟩
  · exact .inl q3
  · exact .inr ⟨b, cs, by omega, g2⟩
theorem LvH.wide {H : AHeap} {lo lo' hi hi' : Nat} {lv : List Lv} {x : AV} (h : LvH H lo hi lv x) (h1 : lo' ≤ lo) (h2 : hi ≤ hi') : LvH H lo' hi' lv x := by
  rcases h with h | ⟨b, cs, g1, g2, g3⟩
  · exact .inl h
  · exact .inr ⟨b, cs, by omega, by omega, g3⟩
mutual
theorem OwnT.up {H : AHeap} : ∀ {t : Tm} {lo hi hi' : Nat} {c : List AV}, OwnT H t lo hi c → hi ≤ hi' → OwnT H t lo hi' c
  | .mk f n h s lv ks, lo, hi, hi', c, ho, hl => by
    simp only [OwnT] at ho ⊢
    obtain ⟨lx, kx, m, rfl, h1, h2, h3, h4⟩ := ho
    refine ⟨lx, kx, m, rfl, h1, by omega, h3, ?_⟩
    rcases h4 with h4 | ⟨b, cs, g1, g2, g3, g4, g5⟩
    · exact .inl h4
    · exact .inr ⟨b, cs, g1, by omega, g3, g4, OwnK.up g5 hl⟩
theorem OwnK.up {H : AHeap} : ∀ {ks : List Tm} {lo hi hi' : Nat} {c : List AV}, OwnK H ks lo hi c → hi ≤ hi' → OwnK H ks lo hi' c
  | [], lo, hi, hi', c, ho, hl => by simp only [OwnK] at ho ⊢; exact ⟨ho.1, by omega⟩
  | k :: r, lo, hi, hi', c, ho, hl => by
    simp only [OwnK] at ho ⊢
    obtain ⟨mid, c1, c2, rfl, h1, h3, h2⟩ := ho
    exact ⟨mid, c1, c2, rfl, h1, h3, OwnK.up h2 hl⟩
end
theorem LvH.one {H : AHeap} {lo hi : Nat} {lv : List Lv} {x : AV} (h : LvH H lo hi lv x) : x.one = true := by
  rcases h with ⟨_, rfl⟩ | ⟨b, cs, _, _, rfl, _⟩ <;> rfl
theorem LvH.cells {H : AHeap} {lo hi : Nat} {lv : List Lv} {x : AV} (h : LvH H lo hi lv x) : x.acells = [x] := by
  rcases h with ⟨_, rfl⟩ | ⟨b, cs, _, _, rfl, _⟩ <;> rfl
theorem OwnT.six {H : AHeap} {t : Tm} {lo hi : Nat} {c : List AV} (h : OwnT H t lo hi c) : ∃ lx kx, c = [aint t.form, aint t.n, abl t.hid, .v (.string t.name), lx, kx] ∧ lx.one = true ∧ lx.acells = [lx] ∧ kx.one = true ∧ kx.acells = [kx] ∧ c.all AV.one = true := by
  obtain ⟨f, n, hd, s, lv, ks⟩ := t
  simp only [OwnT] at h
  obtain ⟨lx, kx, m, rfl, q1, q2, q3, q4⟩ := h
  have k1 : kx.one = true := by
    rcases q4 with ⟨_, rfl⟩ | ⟨b, cs, _, _, rfl, _⟩ <;> rfl
  have k2 : kx.acells = [kx] := by
    rcases q4 with ⟨_, rfl⟩ | ⟨b, cs, _, _, rfl, _⟩ <;> rfl
  exact ⟨lx, kx, rfl, q3.one, q3.cells, k1, k2, by simp [q3.one, k1, one_int, one_bool, one_str]⟩
theorem own_zero {G : AHeap} {lo hi : Nat} (hle : lo ≤ hi) : OwnT G zeroTm lo hi z6 := own_bare hi hle

theorem cleanK_take : ∀ (ks : List Tm) (i : Nat) (hi : i < ks.length), cleanK (ks.take (i + 1)) = cleanK (ks.take i) ++ [cleanT ks[i]]
  | k :: r, 0, _ => rfl
  | k :: r, i + 1, hi => by
    simp only [List.take_succ_cons, cleanK, List.cons_append, List.getElem_cons_succ]
    rw [cleanK_take r i (by simpa using hi)]
theorem szK_take : ∀ (ks : List Tm) (i : Nat) (hi : i < ks.length), szK (ks.take (i + 1)) = szK (ks.take i) + szT ks[i]
  | k :: r, 0, _ => by simp [szK]
  | k :: r, i + 1, hi => by
    simp only [List.take_succ_cons, szK, List.getElem_cons_succ]
    rw [szK_take r i (by simpa using hi)]; omega
theorem szK_take_le (ks : List Tm) (i : Nat) : szK (ks.take i) ≤ szK ks := by
  induction ks generalizing i with
  | nil => simp [szK]
  | cons k r ih =>
    cases i with
    | zero => simp [szK]
    | succ i => simp only [List.take_succ_cons, szK]; have := ih i; omega

set_option maxRecDepth 100000 in
theorem mapU_ok {bl : Nat} : ∀ t, Tm.All TmB t → ∀ (cells : List AV), TmP t cells → ∀ (deep m : Int), 0 ≤ deep → deep + htT t ≤ 4611686018427387904 → (szT t : Int) ≤ m → m ≤ 2305843009213693952 →
      ∀ (H : AHeap), H.get bl = some (.cells [aint m]) → bl < H.next →
      SCall Try.prog 123 [.agg cells, aint deep, .ptr bl 0, .fn (.func 125) [] []] H fun x H' => (∃ c, x = .agg c ∧ OwnT H' (cleanT t) H.next H'.next c) ∧ Ext (H.set bl (.cells [aint (m - szT t)])) H' := by
  refine Tm.rule fun f n hid s lv ks ih ha cells hT deep m hd0 hd1 hm0 hm1 H hgl hl => ?_
  have hT' := hT
  have hTc := hT.1
  obtain ⟨lx, kx, ls, cs, rfl, hl1, hl2, hk1, hk2⟩ := hTc.six
  simp only [Tm.All, Tm.form, Tm.n, Tm.hid, Tm.name, Tm.lv, Tm.kids] at *
  obtain ⟨hTB, a5⟩ := ha
  have hTB' := hTB
  simp only [TmB, Tm.form, Tm.n, Tm.name, Tm.lv, Tm.kids] at hTB'
  obtain ⟨_, _, b1, b2, b3, b4⟩ := hTB'
  have hsz : (szT (.mk f n hid s lv ks) : Int) = 1 + szK ks := by simp only [szT]; omega
  rw [hsz] at hm0
  rw [hsz]
  have hht : htT (.mk f n hid s lv ks) = 1 + htK ks := by simp only [htT]
  rw [hht] at hd1
  have n1 : ¬ bl = H.next := by omega
  have n2 : ¬ bl = H.next + 1 := by omega
  have n1' : ¬ H.next = bl := by omega
  have n2' : ¬ H.next + 1 = bl := by omega
  have e1 : ¬ H.next + 1 = H.next := by omega
  have e2 : ¬ H.next = H.next + 1 := by omega
  have w1 : IntKind.i64.wrap (m - 1) = m - 1 := i64_ok _ (by omega)
  refine SCall.intro mixed cf123 ?_
  have h0 : ¬ m - 1 < 0 := by omega
  simp -implicitDefEqProofs only [c123, go_sem, Nat.reduceEqDiff, Nat.reduceAdd, Nat.reduceLeDiff, ↓reduceIte, reduceCtorEq, Int.reduceBEq, Int.reduceBNe, Int.reduceLT, Int.reduceLE, Int.reduceGT, Int.reduceGE, Int.reduceNeg, Int.reduceAdd, Int.reduceSub, Nat.reduceMul, Nat.reduceLT, Int.reduceToNat, hl1.one, hl1.cells, hk1.one, hk1.cells, e1, e2, n1, n2, n1', n2', hgl, w1, h0]
  -- the call of what does
  generalize hG3 : (((H.new (.cells [aint f, aint n, abl hid, .v (.string s), lx, kx])).new (.cells [aint 0, aint 0, abl false, nostr, nils, nils])).set bl (.cells [aint (m - 1)])) = G3
  have hEG : Ext (H.set bl (.cells [aint (m - 1)])) G3 := by
    rw [← hG3]
    have h2 : Ext (H.set bl (.cells [aint m])) ((H.new (.cells [aint f, aint n, abl hid, .v (.string s), lx, kx])).new (.cells [aint 0, aint 0, abl false, nostr, nils, nils])) := Ext.selfE hgl (((Ext.refl H).new _).new _)
    exact h2.put
  have g30 : G3.get H.next = some (.cells [aint f, aint n, abl hid, .v (.string s), lx, kx]) := by rw [← hG3]; simp -implicitDefEqProofs only [go_sem, Nat.reduceEqDiff, Nat.reduceAdd, Nat.reduceLeDiff, ↓reduceIte, reduceCtorEq, Int.reduceBEq, Int.reduceBNe, Int.reduceLT, Int.reduceLE, Int.reduceGT, Int.reduceGE, Int.reduceNeg, Int.reduceAdd, Int.reduceSub, Nat.reduceMul, Nat.reduceLT, Int.reduceToNat, n1', e2]
  have g31 : G3.get (H.next + 1) = some (.cells z6) := by rw [← hG3]; simp -implicitDefEqProofs only [go_sem, Nat.reduceEqDiff, Nat.reduceAdd, Nat.reduceLeDiff, ↓reduceIte, reduceCtorEq, Int.reduceBEq, Int.reduceBNe, Int.reduceLT, Int.reduceLE, Int.reduceGT, Int.reduceGE, Int.reduceNeg, Int.reduceAdd, Int.reduceSub, Nat.reduceMul, Nat.reduceLT, Int.reduceToNat, n2']
  have g3n : G3.next = H.next + 2 := by rw [← hG3]; rfl
  refine i_callA (fid := 125) (fs := []) (cs := []) ?_ ?_ (copyD_ok (.mk f n hid s lv ks) _ deep hT' G3) ?_
  · rfl
  · simp -implicitDefEqProofs only [go_sem, Nat.reduceEqDiff, Nat.reduceAdd, Nat.reduceLeDiff, ↓reduceIte, reduceCtorEq, Int.reduceBEq, Int.reduceBNe, Int.reduceLT, Int.reduceLE, Int.reduceGT, Int.reduceGE, Int.reduceNeg, Int.reduceAdd, Int.reduceSub, Nat.reduceMul, Nat.reduceLT, Int.reduceToNat]
  rintro x H3 ⟨rfl, hHH⟩
  have hHH := hHH.symm
  subst hHH
  have q0 : ¬ H.next = G3.next := by omega
  have q1 : ¬ H.next + 1 = G3.next := by omega
  have q2 : ¬ G3.next = H.next + 1 := by omega
  have q3 : ¬ G3.next = H.next := by omega
  simp -implicitDefEqProofs only [go_sem, Nat.reduceEqDiff, Nat.reduceAdd, Nat.reduceLeDiff, ↓reduceIte, reduceCtorEq, Int.reduceBEq, Int.reduceBNe, Int.reduceLT, Int.reduceLE, Int.reduceGT, Int.reduceGE, Int.reduceNeg, Int.reduceAdd, Int.reduceSub, Nat.reduceMul, Nat.reduceLT, Int.reduceToNat, q0, q1, q2, q3, g30, g31, afill]
  refine i_callA (fid := 171) (fs := []) (cs := []) ?_ ?_ (bareU (.mk f n hid s lv ks) hTB _ hTc _) ?_
  · rfl
  · simp -implicitDefEqProofs only [go_sem, Nat.reduceEqDiff, Nat.reduceAdd, Nat.reduceLeDiff, ↓reduceIte, reduceCtorEq, Int.reduceBEq, Int.reduceBNe, Int.reduceLT, Int.reduceLE, Int.reduceGT, Int.reduceGE, Int.reduceNeg, Int.reduceAdd, Int.reduceSub, Nat.reduceMul, Nat.reduceLT, Int.reduceToNat]
  rintro x G5 ⟨⟨bc, rfl, hbc⟩, hE5⟩
  have hbt : ∃ bf bn bh bs blv, bareT (.mk f n hid s lv ks) = .mk bf bn bh bs blv [] := ⟨_, _, _, _, _, rfl⟩
  obtain ⟨bf, bn, bh, bs, blv, hbt⟩ := hbt
  rw [cleanT, hbt]
  rw [hbt] at hbc
  clear hbt
  have hbc' := hbc
  simp only [OwnT] at hbc
  obtain ⟨ay, byx, mm, rfl, u1, u2, hLv, hby⟩ := hbc
  have w2 := hLv.one
  have w3 := hLv.cells
  have w4 : byx.one = true := by
    rcases hby with ⟨_, rfl⟩ | ⟨b, cs, _, _, rfl, _⟩ <;> rfl
  have w5 : byx.acells = [byx] := by
    rcases hby with ⟨_, rfl⟩ | ⟨b, cs, _, _, rfl, _⟩ <;> rfl
  clear hby
  simp only [set_next, new_next] at u1 hLv hbc'
  have g5n : H.next + 3 ≤ G5.next := by have := hE5.1; simp only [set_next, new_next] at this; omega
  have g50 : G5.get H.next = some (.cells [aint f, aint n, abl hid, .v (.string s), lx, kx]) := by
    rw [hE5.2 H.next (by simp only [set_next, new_next]; omega), set_get, if_neg q0, new_get, if_neg q0]; exact g30
  have g51 : G5.get (H.next + 1) = some (.cells z6) := by
    rw [hE5.2 (H.next + 1) (by simp only [set_next, new_next]; omega), set_get, if_neg q1, new_get, if_neg q1]; exact g31
  have hEH : Ext (H.set bl (.cells [aint (m - 1)])) G5 := (((hEG.new _).set (by rw [set_next]; omega) _).trans hE5)
  clear hE5 hEG g30 g31
  have s0 : ¬ H.next = G5.next := by omega
  have s1 : ¬ H.next + 1 = G5.next := by omega
  have s2 : ¬ G5.next = H.next := by omega
  have s3 : ¬ G5.next = H.next + 1 := by omega
  have t0 : ¬ H.next = G5.next + 1 := by omega
  have t1 : ¬ H.next + 1 = G5.next + 1 := by omega
  have t2 : ¬ G5.next = G5.next + 1 := by omega
  have t3 : ¬ G5.next + 1 = G5.next := by omega
  have t4 : ¬ G5.next + 1 = H.next := by omega
  have t5 : ¬ G5.next + 1 = H.next + 1 := by omega
  by_cases hn0 : ks.length = 0
  · have hks : ks = [] := List.length_eq_zero_iff.1 hn0
    subst hks
    have z0 : ¬ ((0 : Nat) : Int) > 0 := by omega
    simp only [List.length_nil] at hk1
    simp -implicitDefEqProofs only [go_sem, Nat.reduceEqDiff, Nat.reduceAdd, Nat.reduceLeDiff, ↓reduceIte, reduceCtorEq, Int.reduceBEq, Int.reduceBNe, Int.reduceLT, Int.reduceLE, Int.reduceGT, Int.reduceGE, Int.reduceNeg, Int.reduceAdd, Int.reduceSub, Nat.reduceMul, Nat.reduceLT, Int.reduceToNat, s0, s1, s2, s3, g50, g51, w2, w3, w4, w5, fun H => hk1.alen H, z0]
    refine swp_range 0 (fun i st => st.tm 4 = .ptr H.next 0 ∧ st.tm 8 = .ptr (H.next + 1) 0 ∧ st.tm 11 = .ptr G5.next 0 ∧ st.tm 46 = aint ((0 : Nat) : Int) ∧ st.tm 47 = aint ((0 : Nat) : Int) ∧ Ext G5 st.heap ∧ st.heap.get (H.next + 1) = some (.cells z6) ∧
      st.heap.get G5.next = some (.cells [aint bf, aint bn, abl bh, .v (.string bs), ay, byx])) ?_ ?_ ?_
    · refine ⟨rfl, rfl, rfl, rfl, rfl, ((Ext.refl G5).new _).set (by omega) _, ?_, ?_⟩
      all_goals simp -implicitDefEqProofs only [go_sem, Nat.reduceEqDiff, Nat.reduceAdd, Nat.reduceLeDiff, ↓reduceIte, reduceCtorEq, Int.reduceBEq, Int.reduceBNe, Int.reduceLT, Int.reduceLE, Int.reduceGT, Int.reduceGE, Int.reduceNeg, Int.reduceAdd, Int.reduceSub, Nat.reduceMul, Nat.reduceLT, Int.reduceToNat, s1, g51]
    · intro i st hi; omega
    · rintro ⟨tm, H5⟩ ⟨v4, v8, v11, v46, v47, hE, v1, v2⟩
      simp only at v4 v8 v11 v46 v47 hE v1 v2
      simp -implicitDefEqProofs only [go_sem, Nat.reduceEqDiff, Nat.reduceAdd, Nat.reduceLeDiff, ↓reduceIte, reduceCtorEq, Int.reduceBEq, Int.reduceBNe, Int.reduceLT, Int.reduceLE, Int.reduceGT, Int.reduceGE, Int.reduceNeg, Int.reduceAdd, Int.reduceSub, Nat.reduceMul, Nat.reduceLT, Int.reduceToNat, v4, v8, v11, v46, v47, Int.lt_irrefl, v1, v2, w2, w3, w4, w5]
      refine ⟨⟨_, rfl, ?_⟩, ?_⟩
      · have hfr : OwnT (H5.set (H.next + 1) (.cells [aint bf, aint bn, abl bh, .v (.string bs), ay, byx])) (.mk bf bn bh bs blv []) (G3.next + 1) G5.next [aint bf, aint bn, abl bh, .v (.string bs), ay, byx] :=
          hbc'.frame fun b q1 q2 => by rw [set_get, if_neg (by omega)]; exact hE.2 b q2
        exact (hfr.low (by omega)).up hE.1
      · simp only [szK]
        rw [show m - (1 + ((0 : Nat) : Int)) = m - 1 by omega]
        exact (hEH.trans hE).set (by rw [set_next]; omega) _
  have hz : ((ks.length : Nat) : Int) > 0 := by omega
  have hkxo : Old 0 kx := hT'.2 kx (by simp)
  have hcso : ∀ y ∈ cs, Old 0 y := by
    rcases hk1 with ⟨h, _⟩ | ⟨lo, ex, rfl, _⟩
    · exact absurd h hn0
    · cases hkxo with | ro _ _ _ _ h => exact h
  have hreplen : (List.replicate ks.length z6).flatten.length = ks.length * 6 := by simp
  simp -implicitDefEqProofs only [go_sem, Nat.reduceEqDiff, Nat.reduceAdd, Nat.reduceLeDiff, ↓reduceIte, reduceCtorEq, Int.reduceBEq, Int.reduceBNe, Int.reduceLT, Int.reduceLE, Int.reduceGT, Int.reduceGE, Int.reduceNeg, Int.reduceAdd, Int.reduceSub, Nat.reduceMul, Nat.reduceLT, Int.reduceToNat, s0, s1, s2, s3, t0, t1, t2, t3, g50, g51, w2, w3, w4, w5, fun H => hk1.alen H, hz, fun G => make_kids ks.length b3 G]
  refine swp_range ks.length (fun i st => st.tm 1 = aint deep ∧ st.tm 2 = .ptr bl 0 ∧ st.tm 3 = .fn (.func 125) [] [] ∧ st.tm 4 = .ptr H.next 0 ∧ st.tm 8 = .ptr (H.next + 1) 0 ∧ st.tm 11 = .ptr G5.next 0 ∧ st.tm 45 = kx ∧ st.tm 46 = aint ks.length ∧ st.tm 47 = aint i ∧ G5.next + 2 ≤ st.heap.next ∧
    st.heap.get H.next = some (.cells [aint f, aint n, abl hid, .v (.string s), lx, kx]) ∧ st.heap.get (H.next + 1) = some (.cells z6) ∧
    st.heap.get G5.next = some (.cells [aint bf, aint bn, abl bh, .v (.string bs), ay, .slc (G5.next + 1) 0 6 ks.length ks.length true]) ∧
    LvH st.heap (G3.next + 1) mm blv ay ∧ Ext (H.set bl (.cells [aint (m - 1 - szK (ks.take i))])) st.heap ∧
    ∃ (l : List AV), st.heap.get (G5.next + 1) = some (.cells l) ∧ l.length = ks.length * 6 ∧ OwnK st.heap (cleanK (ks.take i)) (G5.next + 2) st.heap.next (l.take (i * 6))) ?_ ?_ ?_
  · refine ⟨rfl, rfl, rfl, rfl, rfl, rfl, rfl, rfl, rfl, ?_, ?_, ?_, ?_, ?_, ?_, _, ?_, hreplen, ?_⟩
    · show G5.next + 2 ≤ G5.next + 1 + 1
      omega
    · simp -implicitDefEqProofs only [go_sem, Nat.reduceEqDiff, Nat.reduceAdd, Nat.reduceLeDiff, ↓reduceIte, reduceCtorEq, Int.reduceBEq, Int.reduceBNe, Int.reduceLT, Int.reduceLE, Int.reduceGT, Int.reduceGE, Int.reduceNeg, Int.reduceAdd, Int.reduceSub, Nat.reduceMul, Nat.reduceLT, Int.reduceToNat, s0, t0, g50]
    · simp -implicitDefEqProofs only [go_sem, Nat.reduceEqDiff, Nat.reduceAdd, Nat.reduceLeDiff, ↓reduceIte, reduceCtorEq, Int.reduceBEq, Int.reduceBNe, Int.reduceLT, Int.reduceLE, Int.reduceGT, Int.reduceGE, Int.reduceNeg, Int.reduceAdd, Int.reduceSub, Nat.reduceMul, Nat.reduceLT, Int.reduceToNat, s1, t1, g51]
    · simp -implicitDefEqProofs only [go_sem, Nat.reduceEqDiff, Nat.reduceAdd, Nat.reduceLeDiff, ↓reduceIte, reduceCtorEq, Int.reduceBEq, Int.reduceBNe, Int.reduceLT, Int.reduceLE, Int.reduceGT, Int.reduceGE, Int.reduceNeg, Int.reduceAdd, Int.reduceSub, Nat.reduceMul, Nat.reduceLT, Int.reduceToNat, t2, t3]
    · exact hLv.frame fun b q1 q2 => by
        rw [set_get, if_neg (by omega), new_get, if_neg (by simp only [set_next, new_next]; omega), set_get, if_neg (by omega), new_get, if_neg (by omega)]
    · simp only [List.take_zero, szK]
      rw [show m - 1 - ((0 : Nat) : Int) = m - 1 by omega]
      exact ((((hEH.new _).set (by rw [set_next]; omega) _).new _).set (by rw [set_next]; omega) _)
    · simp -implicitDefEqProofs only [go_sem, Nat.reduceEqDiff, Nat.reduceAdd, Nat.reduceLeDiff, ↓reduceIte, reduceCtorEq, Int.reduceBEq, Int.reduceBNe, Int.reduceLT, Int.reduceLE, Int.reduceGT, Int.reduceGE, Int.reduceNeg, Int.reduceAdd, Int.reduceSub, Nat.reduceMul, Nat.reduceLT, Int.reduceToNat, t3]
    · simp only [List.take_zero, cleanK, Nat.zero_mul, OwnK]
      exact ⟨trivial, by simp only [set_next, new_next]; omega⟩
  · rintro i ⟨tm, H2⟩ hi ⟨v1, v2, v3, v4, v8, v11, v45, v46, v47, hnx, x0, x1, x2, hLv2, hE, l, x3, hll, hK⟩
    simp only at v1 v2 v3 v4 v8 v11 v45 v46 v47 hnx x0 x1 x2 hLv2 hE x3 hK
    have hltI : (i : Int) < (ks.length : Int) := by omega
    have hix := hk1.aix 6 hi
    obtain ⟨kc, hkc, hle, hld⟩ := hk2.load (List.getElem?_eq_getElem hi)
    have hkm := List.getElem_mem hi
    have hkP : TmP ks[i] kc := ⟨hkc, fun y hy => hcso y (by rw [← hld] at hy; exact List.mem_of_mem_drop (List.mem_of_mem_take hy))⟩
    obtain ⟨ax1, bx1, hk6, k1, k2, k3, k4, k5, k6, k7, k8⟩ := hkP.six
    have w9 : IntKind.i64.wrap ((i : Int) + 1) = (i : Int) + 1 := i64_ok _ (by omega)
    have hub := underF_bound f i deep
    have hhk := htK_mem hkm
    have c0 : ¬ H.next = H2.next := by omega
    have c1' : ¬ G5.next = H2.next := by omega
    have c2 : ¬ H2.next = H.next := by omega
    have c3 : ¬ G5.next + 1 = H2.next := by omega
    have c4 : ¬ H.next + 1 = H2.next := by omega
    have hst := szK_take ks i hi
    have hsl := szK_take_le ks (i + 1)
    generalize hmi : m - 1 - (szK (ks.take i) : Int) = mi at *
    subst hk6
    simp -implicitDefEqProofs only [go_sem, Nat.reduceEqDiff, Nat.reduceAdd, Nat.reduceLeDiff, ↓reduceIte, reduceCtorEq, Int.reduceBEq, Int.reduceBNe, Int.reduceLT, Int.reduceLE, Int.reduceGT, Int.reduceGE, Int.reduceNeg, Int.reduceAdd, Int.reduceSub, Nat.reduceMul, Nat.reduceLT, Int.reduceToNat, v1, v2, v3, v4, v8, v11, v45, v46, v47, x0, x2, hltI, hix, hle, hld, k1, k2, k3, k4, c0, c1']
    refine i_callA (fs := []) (cs := []) (fid := 172) ?_ ?_ (under_ok f i deep (by omega) _) ?_
    · rfl
    · simp -implicitDefEqProofs only [go_sem, Nat.reduceEqDiff, Nat.reduceAdd, Nat.reduceLeDiff, ↓reduceIte, reduceCtorEq, Int.reduceBEq, Int.reduceBNe, Int.reduceLT, Int.reduceLE, Int.reduceGT, Int.reduceGE, Int.reduceNeg, Int.reduceAdd, Int.reduceSub, Nat.reduceMul, Nat.reduceLT, Int.reduceToNat]
    rintro x H3 ⟨rfl, hHH⟩
    have hHH := hHH.symm
    subst hHH
    simp -implicitDefEqProofs only [go_sem, Nat.reduceEqDiff, Nat.reduceAdd, Nat.reduceLeDiff, ↓reduceIte, reduceCtorEq, Int.reduceBEq, Int.reduceBNe, Int.reduceLT, Int.reduceLE, Int.reduceGT, Int.reduceGE, Int.reduceNeg, Int.reduceAdd, Int.reduceSub, Nat.reduceMul, Nat.reduceLT, Int.reduceToNat, v1, v2, v3, v4, v8, v11, v45, v46, v47, x0, x2, c0, c1']
    generalize hG6 : ((H2.new (.cells [aint 0, aint 0, abl false, nostr, nils, nils])).set H2.next (.cells [aint ks[i].form, aint ks[i].n, abl ks[i].hid, .v (.string ks[i].name), ax1, bx1])) = G6
    have hE6 : Ext (H.set bl (.cells [aint mi])) G6 := by rw [← hG6]; exact (hE.new _).set (by rw [set_next]; omega) _
    have g6n : G6.next = H2.next + 1 := by rw [← hG6]; rfl
    have g6o : ∀ b, b < H2.next → G6.get b = H2.get b := fun b hb => by rw [← hG6, set_get, if_neg (by omega), new_get, if_neg (by omega)]
    refine i_callA (fs := []) (cs := []) (fid := 123) ?_ ?_ (ih ks[i] hkm (a5.mem _ hkm) _ hkP (underF f i deep) mi (by omega) (by omega) (by omega) (by omega) G6 (hE6.at hl) (by omega)) ?_
    · rfl
    · simp -implicitDefEqProofs only [go_sem, Nat.reduceEqDiff, Nat.reduceAdd, Nat.reduceLeDiff, ↓reduceIte, reduceCtorEq, Int.reduceBEq, Int.reduceBNe, Int.reduceLT, Int.reduceLE, Int.reduceGT, Int.reduceGE, Int.reduceNeg, Int.reduceAdd, Int.reduceSub, Nat.reduceMul, Nat.reduceLT, Int.reduceToNat, v2, v3]
    rintro x H7 ⟨⟨xc, rfl, hxc⟩, hE7⟩
    obtain ⟨zl, zk, hx6, y1, y2, y3, y4, y5⟩ := hxc.six
    have hE7' : Ext (H.set bl (.cells [aint (mi - szT ks[i])])) H7 := hE6.put.trans hE7
    have h7n : H2.next + 1 ≤ H7.next := by have := hE7.1; rw [set_next] at this; omega
    have h7o : ∀ b, b < H2.next → b ≠ bl → H7.get b = H2.get b := fun b hb hbl => by
      rw [hE7.2 b (by rw [set_next]; omega), set_get, if_neg hbl, g6o b hb]
    have z0 : H7.get H.next = some (.cells [aint f, aint n, abl hid, .v (.string s), lx, kx]) := (h7o _ (by omega) (by omega)).trans x0
    have z1 : H7.get (H.next + 1) = some (.cells z6) := (h7o _ (by omega) (by omega)).trans x1
    have z2 : H7.get G5.next = some (.cells [aint bf, aint bn, abl bh, .v (.string bs), ay, .slc (G5.next + 1) 0 6 ks.length ks.length true]) := (h7o _ (by omega) (by omega)).trans x2
    have z3 : H7.get (G5.next + 1) = some (.cells l) := (h7o _ (by omega) (by omega)).trans x3
    have hixs : aix 6 (i : Int) (.slc (G5.next + 1) 0 6 ks.length ks.length true) = some (.ptr (G5.next + 1) (i * 6)) := by
      simp only [aix]
      rw [if_pos (by omega)]
      simp
    have hle6 : i * 6 + 6 ≤ l.length := by omega
    have hxl := hxc.len
    obtain ⟨st1, st2⟩ := lent_step hll hi hxl hle6
    have d0 : ¬ H.next = G5.next + 1 := by omega
    have d1 : ¬ H.next + 1 = G5.next + 1 := by omega
    have d2 : ¬ G5.next = G5.next + 1 := by omega
    simp -implicitDefEqProofs only [go_sem, Nat.reduceEqDiff, Nat.reduceAdd, Nat.reduceLeDiff, ↓reduceIte, reduceCtorEq, Int.reduceBEq, Int.reduceBNe, Int.reduceLT, Int.reduceLE, Int.reduceGT, Int.reduceGE, Int.reduceNeg, Int.reduceAdd, Int.reduceSub, Nat.reduceMul, Nat.reduceLT, Int.reduceToNat, v11, v47, z2, z3, hixs, hle6, hxl, y5, w9]
    have hse := setL_eq xc l (i * 6) (by omega)
    have hks2 : (ks.take (i + 1)).length = i + 1 := by rw [List.length_take]; omega
    refine ⟨v1, v2, v3, v4, v8, v45, v46, by simp, by omega, ?_, ?_, ?_, ?_, ?_, _, rfl, st1, ?_⟩
    · rw [if_neg (by omega)]; exact z0
    · rw [if_neg (by omega)]; exact z1
    · rw [if_neg (by omega)]
    · exact hLv2.frame fun b q1 q2 => by
        rw [set_get, if_neg (by omega)]
        exact h7o b (by omega) (by omega)
    · rw [show m - 1 - (szK (ks.take (i + 1)) : Int) = mi - szT ks[i] by omega]
      exact hE7'.set (by rw [set_next]; omega) _
    · rw [cleanK_take ks i hi, hse, hxl]
      have ht6 : (l.take (i * 6) ++ xc ++ l.drop (i * 6 + 6)).take ((i + 1) * 6) = l.take (i * 6) ++ xc := by
        rw [List.take_append_of_le_length (by rw [List.length_append, List.length_take, hxl]; omega), List.take_of_length_le (by rw [List.length_append, List.length_take, hxl]; omega)]
      rw [ht6]
      have k1 : OwnK (H7.set (G5.next + 1) (.cells (l.take (i * 6) ++ xc ++ l.drop (i * 6 + 6)))) (cleanK (ks.take i)) (G5.next + 2) H2.next (l.take (i * 6)) := hK.frame fun b q1 q2 => by
        rw [set_get, if_neg (by omega)]
        exact h7o b q2 (by omega)
      have k2 : OwnT (H7.set (G5.next + 1) (.cells (l.take (i * 6) ++ xc ++ l.drop (i * 6 + 6)))) (cleanT ks[i]) H2.next H7.next xc := (hxc.frame fun b q1 q2 => by rw [set_get, if_neg (by omega)]).low (by omega)
      exact k1.snoc k2
  · rintro ⟨tm, H2⟩ ⟨v1, v2, v3, v4, v8, v11, v45, v46, v47, hnx, x0, x1, x2, hLv2, hE, l, x3, hll, hK⟩
    simp only at v1 v2 v3 v4 v8 v11 v45 v46 v47 hnx x0 x1 x2 hLv2 hE x3 hK
    rw [List.take_length] at hE hK
    rw [List.take_of_length_le (by omega)] at hK
    simp -implicitDefEqProofs only [go_sem, Nat.reduceEqDiff, Nat.reduceAdd, Nat.reduceLeDiff, ↓reduceIte, reduceCtorEq, Int.reduceBEq, Int.reduceBNe, Int.reduceLT, Int.reduceLE, Int.reduceGT, Int.reduceGE, Int.reduceNeg, Int.reduceAdd, Int.reduceSub, Nat.reduceMul, Nat.reduceLT, Int.reduceToNat, v4, v8, v11, v46, v47, Int.lt_irrefl, x1, x2, w2, w3]
    refine ⟨⟨_, rfl, ?_⟩, ?_⟩
    · simp only [Tm.with, OwnT]
      refine ⟨ay, _, G5.next, rfl, by omega, by omega, ?_, .inr ⟨G5.next + 1, l, by omega, by omega, by rw [cleanK_len], ?_, ?_⟩⟩
      · exact (hLv2.frame fun b q1 q2 => by rw [set_get, if_neg (by omega)]).wide (by omega) (by omega)
      · rw [set_get, if_neg (by omega)]; exact x3
      · exact hK.frame fun b q1 q2 => by rw [set_get, if_neg (by omega)]
    · rw [show m - (1 + (szK ks : Int)) = m - 1 - szK ks by omega]
      exact hE.set (by rw [set_next]; omega) _
end Go.Proofs.Ytooaiddfokbffaa.E

/- A term's own blocks written over. Conditions: none. -/
set_option linter.unusedVariables false
set_option linter.unusedSimpArgs false
namespace Go.Proofs.Ytooaiddfokbffaa.E
open Go Go.Proofs
attribute [local go_sem] s_seq s_ops s_draw s_block s_skip s_ret s_exit i_nil i_cons i_run i_runG s_condQ c_true c_false aop ev_t ev_c updO_at updO_no upd_at t_normal t_ret t_exit b_normal b_ret b_exit a_some ac_v ac_agg ac_ptr ac_slc ac_ro ac_rop ac_fn new_next set_next argTm_zero argTm_succ argTm_nil ab_bool ab_uv beq_self_eq_true Option.some_beq_some Bool.not_not beq_iff_eq decide_true decide_false Bool.not_true Bool.not_false afld aload astore apack alen_str alen_ro alen_slc alen_nil new_get set_get ite_true ite_false Option.map_some Option.bind_some ibin isShift Nat.add_zero Nat.zero_add List.length_cons List.length_nil List.drop_zero List.drop_succ_cons List.take_succ_cons List.take_zero if_true if_false setL List.set_cons_zero List.set_cons_succ List.all_cons List.all_nil one_int one_bool one_str one_nil one_ptr one_slc one_ro one_rop one_fn Bool.and_self Bool.and_true true_and and_true and_self Bool.false_eq_true post_ret post_normal resAll resOne packR Option.some.injEq exists_eq_left' List.map_cons List.map_nil List.nil_append List.append_nil List.cons_append d_nil d_cons k_nil k_cons g_op g_same g_new avBlock forall_eq' List.getElem?_cons_succ List.getElem?_cons_zero List.getElem?_nil okind gOk bne false_imp_iff forall_const imp_self implies_true true_imp_iff i_callG

/-- Rows are not too long. -/
def Lb (t : Tm) : Prop := t.kids.length ≤ 4611686018427387904 ∧ t.lv.length ≤ 4611686018427387904
theorem tmb_lb {t : Tm} (h : Tm.All TmB t) : Tm.All Lb t := all_mono (fun t ⟨_, _, _, h1, h2, _⟩ => ⟨by omega, by omega⟩) t h

set_option maxRecDepth 100000 in
theorem wipe_ok : ∀ t, Tm.All Lb t → ∀ (lo hi : Nat) (c : List AV) (H : AHeap), OwnT H t lo hi c → hi ≤ H.next →
    SCall Try.prog 18 [.agg c] H fun x H' => H.next ≤ H'.next ∧ ∀ b, b < H.next → ¬ (lo ≤ b ∧ b < hi) → H'.get b = H.get b := by
  refine Tm.rule fun f n hid s lv ks ih ha lo hi c H hO hhi => ?_
  obtain ⟨sl, sk, hc6, y1, y2, y3, y4, y5⟩ := hO.six
  simp only [OwnT] at hO
  obtain ⟨lx, kx, m, rfl, h1, h2, hLv, hK⟩ := hO
  simp only [Tm.form, Tm.n, Tm.hid, Tm.name] at hc6
  injection hc6 with _ hc6
  injection hc6 with _ hc6
  injection hc6 with _ hc6
  injection hc6 with _ hc6
  injection hc6 with r1 hc6
  injection hc6 with r2 _
  subst r1 r2
  simp only [Tm.All, Lb, Tm.kids, Tm.lv] at ha
  obtain ⟨⟨a1, a2⟩, a5⟩ := ha
  refine SCall.intro mixed cf18 ?_
  simp -implicitDefEqProofs only [c18, go_sem, Nat.reduceEqDiff, Nat.reduceAdd, Nat.reduceLeDiff, ↓reduceIte, reduceCtorEq, Int.reduceBEq, Int.reduceBNe, Int.reduceLT, Int.reduceLE, Int.reduceGT, Int.reduceGE, Int.reduceNeg, Int.reduceAdd, Int.reduceSub, Nat.reduceMul, Nat.reduceLT, Int.reduceToNat, y1, y2, y3, y4]
  have kal : ∀ G : AHeap, alen G .slice kx = some ks.length := fun G => by
    rcases hK with ⟨h0, rfl⟩ | ⟨b, cs, _, _, rfl, _⟩
    · rw [h0]; rfl
    · rfl
  have lal : ∀ G : AHeap, alen G .slice lx = some lv.length := fun G => by
    rcases hLv with ⟨h0, rfl⟩ | ⟨b, cs, _, _, rfl, _⟩
    · rw [h0]; rfl
    · rfl
  refine swp_range ks.length (fun i st => st.tm 1 = .ptr H.next 0 ∧ st.tm 2 = aint i ∧ H.next + 1 ≤ st.heap.next ∧ st.heap.get H.next = some (.cells [aint f, aint n, abl hid, .v (.string s), lx, kx]) ∧
    (∀ b, b < H.next → ¬ (lo ≤ b ∧ b < hi) → st.heap.get b = H.get b) ∧ LvH st.heap lo m lv lx ∧
    ((ks.length = 0 ∧ kx = nils) ∨ ∃ b l p, m ≤ b ∧ b < p ∧ p ≤ hi ∧ kx = .slc b 0 6 ks.length ks.length true ∧ st.heap.get b = some (.cells l) ∧ l.length = ks.length * 6 ∧ OwnK st.heap (ks.drop i) p hi (l.drop (i * 6)))) ?_ ?_ ?_
  · refine ⟨rfl, rfl, ?_, ?_, fun b hb _ => ?_, hLv.frame fun b q1 q2 => ?_, ?_⟩
    · exact Nat.le_refl _
    · simp -implicitDefEqProofs only [go_sem, Nat.reduceEqDiff, Nat.reduceAdd, Nat.reduceLeDiff, ↓reduceIte, reduceCtorEq, Int.reduceBEq, Int.reduceBNe, Int.reduceLT, Int.reduceLE, Int.reduceGT, Int.reduceGE, Int.reduceNeg, Int.reduceAdd, Int.reduceSub, Nat.reduceMul, Nat.reduceLT, Int.reduceToNat]
    · rw [new_get, if_neg (by omega)]
    · rw [new_get, if_neg (by omega)]
    · rcases hK with hK | ⟨b, cs, g1, g2, g3, g4, g5⟩
      · exact .inl hK
      · refine .inr ⟨b, cs, b + 1, g1, by omega, by omega, g3, ?_, g5.len, ?_⟩
        · rw [new_get, if_neg (by omega)]; exact g4
        · simp only [List.drop_zero, Nat.zero_mul]
          exact g5.frame fun b' q1 q2 => by rw [new_get, if_neg (by omega)]
  · rintro i ⟨tm, H2⟩ hi2 ⟨t1, t2, hnx, v0, hout, hL, hKi⟩
    simp only at t1 t2 hnx v0 hout hL hKi
    have hltI : (i : Int) < (ks.length : Int) := by omega
    have w3 : IntKind.i64.wrap ((i : Int) + 1) = (i : Int) + 1 := i64_ok _ (by omega)
    rcases hKi with ⟨h0, _⟩ | ⟨b, l, p, g1, g2, g2', g3, g4, g5, g6⟩
    · omega
    have hdrop : ks.drop i = ks[i] :: ks.drop (i + 1) := List.drop_eq_getElem_cons hi2
    rw [hdrop] at g6
    simp only [OwnK] at g6
    obtain ⟨mid, c1, c2, hcc, q1, q2, q3⟩ := g6
    have hml := q3.le
    have hkm := List.getElem_mem hi2
    have hle6 : i * 6 + 6 ≤ l.length := by omega
    have hld : (l.drop (i * 6)).take 6 = c1 := by rw [hcc, List.take_append_of_le_length (by rw [q2.len]; omega), List.take_of_length_le (by rw [q2.len]; omega)]
    have hix : aix 6 (i : Int) kx = some (.ptr b (i * 6)) := by
      rw [g3]; simp only [aix]
      rw [if_pos (by omega)]
      simp
    obtain ⟨ux, vx, hc16, z1, z2, z3, z4, z5⟩ := q2.six
    simp -implicitDefEqProofs only [go_sem, Nat.reduceEqDiff, Nat.reduceAdd, Nat.reduceLeDiff, ↓reduceIte, reduceCtorEq, Int.reduceBEq, Int.reduceBNe, Int.reduceLT, Int.reduceLE, Int.reduceGT, Int.reduceGE, Int.reduceNeg, Int.reduceAdd, Int.reduceSub, Nat.reduceMul, Nat.reduceLT, Int.reduceToNat, t1, t2, v0, kal, hltI, hix, g4, hle6, hld]
    refine i_callA (fs := []) (cs := []) (fid := 18) ?_ ?_ (ih ks[i] hkm (a5.mem _ hkm) p mid c1 H2 q2 (by omega)) ?_
    · rfl
    · simp -implicitDefEqProofs only [go_sem, Nat.reduceEqDiff, Nat.reduceAdd, Nat.reduceLeDiff, ↓reduceIte, reduceCtorEq, Int.reduceBEq, Int.reduceBNe, Int.reduceLT, Int.reduceLE, Int.reduceGT, Int.reduceGE, Int.reduceNeg, Int.reduceAdd, Int.reduceSub, Nat.reduceMul, Nat.reduceLT, Int.reduceToNat]
    rintro x H3 ⟨hn3, ho3⟩
    have x0 : H3.get H.next = some (.cells [aint f, aint n, abl hid, .v (.string s), lx, kx]) := (ho3 _ (by omega) (by omega)).trans v0
    have x4 : H3.get b = some (.cells l) := (ho3 _ (by omega) (by omega)).trans g4
    have hbn : ¬ H.next = b := by omega
    simp -implicitDefEqProofs only [go_sem, Nat.reduceEqDiff, Nat.reduceAdd, Nat.reduceLeDiff, ↓reduceIte, reduceCtorEq, Int.reduceBEq, Int.reduceBNe, Int.reduceLT, Int.reduceLE, Int.reduceGT, Int.reduceGE, Int.reduceNeg, Int.reduceAdd, Int.reduceSub, Nat.reduceMul, Nat.reduceLT, Int.reduceToNat, t1, t2, x0, x4, kal, hix, hle6, afill, w3]
    refine ⟨by simp, by omega, if_neg hbn, fun b' hb' hout' => ?_, ?_, .inr ⟨b, _, mid, g1, by omega, by omega, g3, if_pos rfl, ?_, ?_⟩⟩
    · rw [if_neg (by omega), ho3 b' (by omega) (by omega)]
      exact hout b' hb' hout'
    · exact hL.frame fun b' r1 r2 => by rw [set_get, if_neg (by omega), ho3 b' (by omega) (by omega)]
    · simp only [List.length_set]; exact g5
    · have hd : l.drop ((i + 1) * 6) = c2 := by
        rw [show (i + 1) * 6 = i * 6 + 6 by omega, ← List.drop_drop, hcc, List.drop_append_of_le_length (by rw [q2.len]; omega), List.drop_of_length_le (by rw [q2.len]; omega), List.nil_append]
      rw [List.drop_set_of_lt (by omega), List.drop_set_of_lt (by omega), List.drop_set_of_lt (by omega), List.drop_set_of_lt (by omega), List.drop_set_of_lt (by omega), List.drop_set_of_lt (by omega), hd]
      exact q3.frame fun b' r1 r2 => by rw [set_get, if_neg (by omega), ho3 b' (by omega) (by omega)]
  · rintro ⟨tm, H2⟩ ⟨t1, t2, hnx, v0, hout, hL, hKi⟩
    simp only at t1 t2 hnx v0 hout hL
    clear hKi
    simp -implicitDefEqProofs only [go_sem, Nat.reduceEqDiff, Nat.reduceAdd, Nat.reduceLeDiff, ↓reduceIte, reduceCtorEq, Int.reduceBEq, Int.reduceBNe, Int.reduceLT, Int.reduceLE, Int.reduceGT, Int.reduceGE, Int.reduceNeg, Int.reduceAdd, Int.reduceSub, Nat.reduceMul, Nat.reduceLT, Int.reduceToNat, t1, t2, v0, kal, Int.lt_irrefl]
    refine swp_range lv.length (fun i st => st.tm 1 = .ptr H.next 0 ∧ st.tm 3 = aint i ∧ H.next + 1 ≤ st.heap.next ∧ st.heap.get H.next = some (.cells [aint f, aint n, abl hid, .v (.string s), lx, kx]) ∧
      (∀ b, b < H.next → ¬ (lo ≤ b ∧ b < hi) → st.heap.get b = H.get b) ∧
      ((lv.length = 0 ∧ lx = nils) ∨ ∃ b l, lo ≤ b ∧ b < m ∧ lx = .slc b 0 2 lv.length lv.length false ∧ st.heap.get b = some (.cells l) ∧ l.length = lv.length * 2)) ?_ ?_ ?_
    · refine ⟨?_, rfl, hnx, v0, hout, ?_⟩
      · simp -implicitDefEqProofs only [go_sem, Nat.reduceEqDiff, Nat.reduceAdd, Nat.reduceLeDiff, ↓reduceIte, reduceCtorEq, Int.reduceBEq, Int.reduceBNe, Int.reduceLT, Int.reduceLE, Int.reduceGT, Int.reduceGE, Int.reduceNeg, Int.reduceAdd, Int.reduceSub, Nat.reduceMul, Nat.reduceLT, Int.reduceToNat, t1]
      rcases hL with hL | ⟨b, cs, g1, g2, g3, g4, g5⟩
      · exact .inl hL
      · exact .inr ⟨b, cs, g1, g2, g3, g4, g5.len⟩
    · rintro i ⟨tm, H4⟩ hi2 ⟨t1, t3, hnx, v0, hout, hLi⟩
      simp only at t1 t3 hnx v0 hout hLi
      have hltI : (i : Int) < (lv.length : Int) := by omega
      have w3 : IntKind.i64.wrap ((i : Int) + 1) = (i : Int) + 1 := i64_ok _ (by omega)
      rcases hLi with ⟨h0, _⟩ | ⟨b, l, g1, g2, g3, g4, g5⟩
      · omega
      have hix : aix 2 (i : Int) lx = some (.ptr b (i * 2)) := by
        rw [g3]; simp only [aix]
        rw [if_pos (by omega)]
        simp
      have hle2 : i * 2 + 2 ≤ l.length := by omega
      have hbn : ¬ H.next = b := by omega
      simp -implicitDefEqProofs only [go_sem, Nat.reduceEqDiff, Nat.reduceAdd, Nat.reduceLeDiff, ↓reduceIte, reduceCtorEq, Int.reduceBEq, Int.reduceBNe, Int.reduceLT, Int.reduceLE, Int.reduceGT, Int.reduceGE, Int.reduceNeg, Int.reduceAdd, Int.reduceSub, Nat.reduceMul, Nat.reduceLT, Int.reduceToNat, t1, t3, v0, lal, hltI, hix, g4, hle2, afill, w3]
      refine ⟨by simp, hnx, if_neg hbn, fun b' hb' hout' => ?_, .inr ⟨b, _, g1, g2, g3, if_pos rfl, ?_⟩⟩
      · rw [if_neg (by omega)]
        exact hout b' hb' hout'
      · simp only [List.length_set]; exact g5
    · rintro ⟨tm, H4⟩ ⟨t1, t3, hnx, v0, hout, hLi⟩
      simp only at t1 t3 hnx v0 hout
      clear hLi
      simp -implicitDefEqProofs only [go_sem, Nat.reduceEqDiff, Nat.reduceAdd, Nat.reduceLeDiff, ↓reduceIte, reduceCtorEq, Int.reduceBEq, Int.reduceBNe, Int.reduceLT, Int.reduceLE, Int.reduceGT, Int.reduceGE, Int.reduceNeg, Int.reduceAdd, Int.reduceSub, Nat.reduceMul, Nat.reduceLT, Int.reduceToNat, t1, t3, v0, lal, Int.lt_irrefl]
      exact ⟨by omega, hout⟩
end Go.Proofs.Ytooaiddfokbffaa.E

/- term.Lift with an answer that may be written over. Conditions: none. -/
set_option linter.unusedVariables false
set_option linter.unusedSimpArgs false
namespace Go.Proofs.Ytooaiddfokbffaa.E
open Go Go.Proofs
attribute [local go_sem] s_seq s_ops s_draw s_block s_skip s_ret s_exit i_nil i_cons i_run i_runG s_condQ c_true c_false aop ev_t ev_c updO_at updO_no upd_at t_normal t_ret t_exit b_normal b_ret b_exit a_some ac_v ac_agg ac_ptr ac_slc ac_ro ac_rop ac_fn new_next set_next argTm_zero argTm_succ argTm_nil ab_bool ab_uv beq_self_eq_true Option.some_beq_some Bool.not_not beq_iff_eq decide_true decide_false Bool.not_true Bool.not_false afld aload astore apack alen_str alen_ro alen_slc alen_nil new_get set_get ite_true ite_false Option.map_some Option.bind_some ibin isShift Nat.add_zero Nat.zero_add List.length_cons List.length_nil List.drop_zero List.drop_succ_cons List.take_succ_cons List.take_zero if_true if_false setL List.set_cons_zero List.set_cons_succ List.all_cons List.all_nil one_int one_bool one_str one_nil one_ptr one_slc one_ro one_rop one_fn Bool.and_self Bool.and_true true_and and_true and_self Bool.false_eq_true post_ret post_normal resAll resOne packR Option.some.injEq exists_eq_left' List.map_cons List.map_nil List.nil_append List.append_nil List.cons_append d_nil d_cons k_nil k_cons g_op g_same g_new avBlock forall_eq' List.getElem?_cons_succ List.getElem?_cons_zero List.getElem?_nil okind gOk bne false_imp_iff forall_const imp_self implies_true true_imp_iff i_callG

set_option maxRecDepth 100000 in
theorem copyU_ok (t : Tm) (ha : Tm.All TmB t) (hh : htT t ≤ 1000000) (hz : szT t ≤ 1000000) (cells : List AV) (hT : TmP t cells) (H : AHeap) : SCall Try.prog 76 [.agg cells] H fun x H' => (∃ c, x = .agg c ∧ OwnT H' (cleanT t) H.next H'.next c) ∧ Ext H H' := by
  have hT' := hT
  obtain ⟨lx, kx, hc6, p1, p2, p3, p4, p5, p6, p7, p8⟩ := hT.six
  subst hc6
  refine SCall.intro mixed cf76 ?_
  have e1 : ¬ H.next = H.next + 1 := by omega
  have e2 : ¬ H.next + 1 = H.next := by omega
  have e3 : ¬ H.next = H.next + 1 + 1 := by omega
  have e4 : ¬ H.next + 1 = H.next + 1 + 1 := by omega
  simp -implicitDefEqProofs only [c76, go_sem, Nat.reduceEqDiff, Nat.reduceAdd, Nat.reduceLeDiff, ↓reduceIte, reduceCtorEq, Int.reduceBEq, Int.reduceBNe, Int.reduceLT, Int.reduceLE, Int.reduceGT, Int.reduceGE, Int.reduceNeg, Int.reduceAdd, Int.reduceSub, Nat.reduceMul, Nat.reduceLT, Int.reduceToNat, p1, p2, p3, p4, e1, e2]
  refine i_callA (fs := []) (cs := []) ?_ ?_ (none_ok _) ?_
  · rfl
  · simp -implicitDefEqProofs only [go_sem, Nat.reduceEqDiff, Nat.reduceAdd, Nat.reduceLeDiff, ↓reduceIte, reduceCtorEq, Int.reduceBEq, Int.reduceBNe, Int.reduceLT, Int.reduceLE, Int.reduceGT, Int.reduceGE, Int.reduceNeg, Int.reduceAdd, Int.reduceSub, Nat.reduceMul, Nat.reduceLT, Int.reduceToNat]
  rintro x H3 ⟨rfl, rfl⟩
  simp -implicitDefEqProofs only [go_sem, Nat.reduceEqDiff, Nat.reduceAdd, Nat.reduceLeDiff, ↓reduceIte, reduceCtorEq, Int.reduceBEq, Int.reduceBNe, Int.reduceLT, Int.reduceLE, Int.reduceGT, Int.reduceGE, Int.reduceNeg, Int.reduceAdd, Int.reduceSub, Nat.reduceMul, Nat.reduceLT, Int.reduceToNat, e1, e2, e3, e4]
  have hm := mapU_ok (bl := H.next + 1 + 1) t ha _ hT' 0 1099511627776 (by omega) (by omega) (by omega) (by omega) ((((H.new (.cells [aint t.form, aint t.n, abl t.hid, .v (.string t.name), lx, kx])).new (.cells [aint 0, aint 0, abl false, nostr, nils, nils])).new (.cells [aint 0])).set (H.next + 1 + 1) (.cells [aint 1099511627776]))
    (by simp -implicitDefEqProofs only [go_sem, Nat.reduceEqDiff, Nat.reduceAdd, Nat.reduceLeDiff, ↓reduceIte, reduceCtorEq, Int.reduceBEq, Int.reduceBNe, Int.reduceLT, Int.reduceLE, Int.reduceGT, Int.reduceGE, Int.reduceNeg, Int.reduceAdd, Int.reduceSub, Nat.reduceMul, Nat.reduceLT, Int.reduceToNat]) (by simp only [set_next, new_next]; omega)
  refine i_callA (fs := []) (cs := []) (fid := 123) ?_ ?_ hm ?_
  · rfl
  · simp -implicitDefEqProofs only [go_sem, Nat.reduceEqDiff, Nat.reduceAdd, Nat.reduceLeDiff, ↓reduceIte, reduceCtorEq, Int.reduceBEq, Int.reduceBNe, Int.reduceLT, Int.reduceLE, Int.reduceGT, Int.reduceGE, Int.reduceNeg, Int.reduceAdd, Int.reduceSub, Nat.reduceMul, Nat.reduceLT, Int.reduceToNat]
  rintro x G ⟨⟨xc, rfl, hxc⟩, hE⟩
  obtain ⟨ax, bx, hx6, k1, k2, k3, k4, k5⟩ := hxc.six
  have gn : H.next + 1 + 1 + 1 ≤ G.next := hE.1
  have g1 : G.get (H.next + 1) = some (.cells z6) := by
    rw [hE.2 _ (by simp only [set_next, new_next]; omega), set_get, if_neg e4, set_get, if_neg e4, new_get, if_neg (by simp only [new_next]; omega), new_get]
    exact if_pos rfl
  subst hx6
  simp -implicitDefEqProofs only [go_sem, Nat.reduceEqDiff, Nat.reduceAdd, Nat.reduceLeDiff, ↓reduceIte, reduceCtorEq, Int.reduceBEq, Int.reduceBNe, Int.reduceLT, Int.reduceLE, Int.reduceGT, Int.reduceGE, Int.reduceNeg, Int.reduceAdd, Int.reduceSub, Nat.reduceMul, Nat.reduceLT, Int.reduceToNat, e1, e2, e3, e4, k1, k2, k3, k4, g1]
  refine ⟨⟨_, rfl, ?_⟩, ?_⟩
  · simp only [set_next, new_next] at hxc
    exact (hxc.frame fun b q1 q2 => by rw [set_get, if_neg (by omega)]).low (by omega)
  · have hEH : Ext H G := Ext.trans (((((Ext.refl H).new _).new _).new _ |>.set (by omega) _).set (by omega) _) hE
    exact hEH.set (by omega) _

set_option maxRecDepth 100000 in
theorem toldU_ok (t : Tm) (ha : Tm.All TmB t) (lo hi : Nat) (cells : List AV) (H : AHeap) (hT : OwnT H t lo hi cells) (hhi : hi ≤ H.next) : SCall Try.prog 75 [.agg cells, aint 0] H fun x H' => (∃ r c e, x = .tup [.agg c, aint e] ∧ Tm.All TmB r ∧ OwnT H' r lo H'.next c) ∧ Ext H H' := by
  have hT' := hT
  have hle := hT.le
  obtain ⟨lx, kx, hc6, p1, p2, p3, p4, p5⟩ := hT.six
  subst hc6
  refine SCall.intro mixed cf75 ?_
  have e1 : ¬ H.next = H.next + 1 := by omega
  have e2 : ¬ H.next + 1 = H.next := by omega
  simp -implicitDefEqProofs only [c75, go_sem, Nat.reduceEqDiff, Nat.reduceAdd, Nat.reduceLeDiff, ↓reduceIte, reduceCtorEq, Int.reduceBEq, Int.reduceBNe, Int.reduceLT, Int.reduceLE, Int.reduceGT, Int.reduceGE, Int.reduceNeg, Int.reduceAdd, Int.reduceSub, Nat.reduceMul, Nat.reduceLT, Int.reduceToNat, p1, p2, p3, p4, e1, e2, afill]
  have hfr : ∀ o1 o2, OwnT ((H.new o1).new o2) t lo hi [aint t.form, aint t.n, abl t.hid, .v (.string t.name), lx, kx] := fun o1 o2 => hT'.frame fun b q1 q2 => by
    rw [new_get, if_neg (by simp only [new_next]; omega), new_get, if_neg (by omega)]
  refine i_callA (fs := []) (cs := []) ?_ ?_ (Rep.call (f := 24) (R := fun x => x = aint (checkF canF t)) (hfr _ _).rep (Sub.refl _) (fun x hx => ⟨_, hx⟩) fun ys hy => check_ok canF t (tmb_fine ha) ys hy AHeap.empty) ?_
  · rfl
  · simp -implicitDefEqProofs only [go_sem, Nat.reduceEqDiff, Nat.reduceAdd, Nat.reduceLeDiff, ↓reduceIte, reduceCtorEq, Int.reduceBEq, Int.reduceBNe, Int.reduceLT, Int.reduceLE, Int.reduceGT, Int.reduceGE, Int.reduceNeg, Int.reduceAdd, Int.reduceSub, Nat.reduceMul, Nat.reduceLT, Int.reduceToNat]
  rintro x H3 ⟨rfl, rfl⟩
  by_cases hc : checkF canF t = 0
  · rw [hc]
    simp -implicitDefEqProofs only [go_sem, Nat.reduceEqDiff, Nat.reduceAdd, Nat.reduceLeDiff, ↓reduceIte, reduceCtorEq, Int.reduceBEq, Int.reduceBNe, Int.reduceLT, Int.reduceLE, Int.reduceGT, Int.reduceGE, Int.reduceNeg, Int.reduceAdd, Int.reduceSub, Nat.reduceMul, Nat.reduceLT, Int.reduceToNat, p1, p2, p3, p4, e1, e2, afill]
    refine ⟨⟨t, _, 0, rfl, ha, ?_⟩, (((Ext.refl H).new _).new _).set (by omega) _⟩
    exact (hT'.frame fun b q1 q2 => by rw [set_get, if_neg (by omega), new_get, if_neg (by simp only [new_next]; omega), new_get, if_neg (by omega)]).up (by omega)
  · simp -implicitDefEqProofs only [go_sem, Nat.reduceEqDiff, Nat.reduceAdd, Nat.reduceLeDiff, ↓reduceIte, reduceCtorEq, Int.reduceBEq, Int.reduceBNe, Int.reduceLT, Int.reduceLE, Int.reduceGT, Int.reduceGE, Int.reduceNeg, Int.reduceAdd, Int.reduceSub, Nat.reduceMul, Nat.reduceLT, Int.reduceToNat, p1, p2, p3, p4, e1, e2, afill, bne' hc]
    exact ⟨⟨zeroTm, z6, 2, rfl, tmb_zero, own_zero (by omega)⟩, (((Ext.refl H).new _).new _).set (by omega) _⟩

set_option maxRecDepth 100000 in
theorem LiftU_ok (t : Tm) (ha : Tm.All TmB t) (hh : htT t ≤ 1000000) (hz : szT t ≤ 1000000) (cells : List AV) (hT : TmP t cells) (H : AHeap) :
    SCall Try.prog 17 [.agg cells, aint 0, aint 1] H fun x H' => (∃ r c e, x = .tup [.agg c, aint e] ∧ Tm.All TmB r ∧ OwnT H' r H.next H'.next c) ∧ Ext H H' := by
  have hT' := hT
  obtain ⟨lx, kx, hc6, p1, p2, p3, p4, p5, p6, p7, p8⟩ := hT.six
  subst hc6
  refine SCall.intro mixed cf17 ?_
  have e1 : ¬ H.next = H.next + 1 := by omega
  have e2 : ¬ H.next + 1 = H.next := by omega
  simp -implicitDefEqProofs only [c17, go_sem, Nat.reduceEqDiff, Nat.reduceAdd, Nat.reduceLeDiff, ↓reduceIte, reduceCtorEq, Int.reduceBEq, Int.reduceBNe, Int.reduceLT, Int.reduceLE, Int.reduceGT, Int.reduceGE, Int.reduceNeg, Int.reduceAdd, Int.reduceSub, Nat.reduceMul, Nat.reduceLT, Int.reduceToNat, p1, p2, p3, p4, e1, e2]
  refine i_callA (fs := []) (cs := []) ?_ ?_ (check_ok canF t (tmb_fine ha) _ hT'.1 _) ?_
  · rfl
  · simp -implicitDefEqProofs only [go_sem, Nat.reduceEqDiff, Nat.reduceAdd, Nat.reduceLeDiff, ↓reduceIte, reduceCtorEq, Int.reduceBEq, Int.reduceBNe, Int.reduceLT, Int.reduceLE, Int.reduceGT, Int.reduceGE, Int.reduceNeg, Int.reduceAdd, Int.reduceSub, Nat.reduceMul, Nat.reduceLT, Int.reduceToNat]
  rintro x H3 ⟨rfl, rfl⟩
  by_cases hc : checkF canF t = 0
  case neg =>
    simp -implicitDefEqProofs only [go_sem, Nat.reduceEqDiff, Nat.reduceAdd, Nat.reduceLeDiff, ↓reduceIte, reduceCtorEq, Int.reduceBEq, Int.reduceBNe, Int.reduceLT, Int.reduceLE, Int.reduceGT, Int.reduceGE, Int.reduceNeg, Int.reduceAdd, Int.reduceSub, Nat.reduceMul, Nat.reduceLT, Int.reduceToNat, p1, p2, p3, p4, e1, e2, afill, bne' hc]
    exact ⟨⟨zeroTm, z6, _, rfl, tmb_zero, own_zero (by omega)⟩, (((Ext.refl H).new _).new _).set (by omega) _⟩
  rw [hc]
  have hv := check_vn ha hc
  have hb1 : Tm.All TmB (rawLiftF 0 1 t) := rawLift_tmb (by omega) ha hv
  have hs1 := rawLift_sz 0 1 t
  have hs2 := rawLift_ht 0 1 t
  simp -implicitDefEqProofs only [go_sem, Nat.reduceEqDiff, Nat.reduceAdd, Nat.reduceLeDiff, ↓reduceIte, reduceCtorEq, Int.reduceBEq, Int.reduceBNe, Int.reduceLT, Int.reduceLE, Int.reduceGT, Int.reduceGE, Int.reduceNeg, Int.reduceAdd, Int.reduceSub, Nat.reduceMul, Nat.reduceLT, Int.reduceToNat, p1, p2, p3, p4, e1, e2]
  refine i_callA (fs := []) (cs := []) ?_ ?_ (rawLift_ok 0 1 (by omega) (by omega) t ha hv hh hz _ hT' _) ?_
  · rfl
  · simp -implicitDefEqProofs only [go_sem, Nat.reduceEqDiff, Nat.reduceAdd, Nat.reduceLeDiff, ↓reduceIte, reduceCtorEq, Int.reduceBEq, Int.reduceBNe, Int.reduceLT, Int.reduceLE, Int.reduceGT, Int.reduceGE, Int.reduceNeg, Int.reduceAdd, Int.reduceSub, Nat.reduceMul, Nat.reduceLT, Int.reduceToNat]
  rintro x H3 ⟨⟨c1, rfl, h1⟩, rfl⟩
  simp -implicitDefEqProofs only [go_sem, Nat.reduceEqDiff, Nat.reduceAdd, Nat.reduceLeDiff, ↓reduceIte, reduceCtorEq, Int.reduceBEq, Int.reduceBNe, Int.reduceLT, Int.reduceLE, Int.reduceGT, Int.reduceGE, Int.reduceNeg, Int.reduceAdd, Int.reduceSub, Nat.reduceMul, Nat.reduceLT, Int.reduceToNat]
  refine i_callA (fs := []) (cs := []) ?_ ?_ (copyU_ok (rawLiftF 0 1 t) hb1 (by omega) (by omega) _ h1 _) ?_
  · rfl
  · simp -implicitDefEqProofs only [go_sem, Nat.reduceEqDiff, Nat.reduceAdd, Nat.reduceLeDiff, ↓reduceIte, reduceCtorEq, Int.reduceBEq, Int.reduceBNe, Int.reduceLT, Int.reduceLE, Int.reduceGT, Int.reduceGE, Int.reduceNeg, Int.reduceAdd, Int.reduceSub, Nat.reduceMul, Nat.reduceLT, Int.reduceToNat]
  rintro x G ⟨⟨c2, rfl, h2⟩, hE⟩
  have gn : H.next + 1 + 1 ≤ G.next := hE.1
  simp -implicitDefEqProofs only [go_sem, Nat.reduceEqDiff, Nat.reduceAdd, Nat.reduceLeDiff, ↓reduceIte, reduceCtorEq, Int.reduceBEq, Int.reduceBNe, Int.reduceLT, Int.reduceLE, Int.reduceGT, Int.reduceGE, Int.reduceNeg, Int.reduceAdd, Int.reduceSub, Nat.reduceMul, Nat.reduceLT, Int.reduceToNat]
  refine i_callA (fs := []) (cs := []) ?_ ?_ (toldU_ok (cleanT (rawLiftF 0 1 t)) (tmb_clean _ hb1) _ _ _ G h2 (Nat.le_refl _)) ?_
  · rfl
  · simp -implicitDefEqProofs only [go_sem, Nat.reduceEqDiff, Nat.reduceAdd, Nat.reduceLeDiff, ↓reduceIte, reduceCtorEq, Int.reduceBEq, Int.reduceBNe, Int.reduceLT, Int.reduceLE, Int.reduceGT, Int.reduceGE, Int.reduceNeg, Int.reduceAdd, Int.reduceSub, Nat.reduceMul, Nat.reduceLT, Int.reduceToNat]
  rintro x G2 ⟨⟨r, c3, e, rfl, hb3, h3⟩, hE2⟩
  have gn2 := hE2.1
  have g1 : G2.get (H.next + 1) = some (.cells z6) := by
    rw [hE2.2 _ (by omega), hE.2 _ (by simp only [new_next]; omega), new_get]
    exact if_pos rfl
  obtain ⟨ax, bx, hx6, k1, k2, k3, k4, k5⟩ := h3.six
  subst hx6
  simp -implicitDefEqProofs only [go_sem, Nat.reduceEqDiff, Nat.reduceAdd, Nat.reduceLeDiff, ↓reduceIte, reduceCtorEq, Int.reduceBEq, Int.reduceBNe, Int.reduceLT, Int.reduceLE, Int.reduceGT, Int.reduceGE, Int.reduceNeg, Int.reduceAdd, Int.reduceSub, Nat.reduceMul, Nat.reduceLT, Int.reduceToNat, e1, e2, k1, k2, k3, k4, g1]
  simp only [new_next] at h3
  have hEH : Ext H G2 := Ext.trans (((Ext.refl H).new _).new _) (hE.trans hE2)
  exact ⟨⟨r, _, e, rfl, hb3, (h3.frame fun b q1 q2 => by rw [set_get, if_neg (by omega)]).low (by omega)⟩, hEH.set (by omega) _⟩
end Go.Proofs.Ytooaiddfokbffaa.E
