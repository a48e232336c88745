/- Texts of the proof, one behind the other. Conditions: none. -/
import Derived.Test.YtooaiddfokbffaaA7
import Derived.RangeFuncLeaves
import Derived.RangeFuncRecord
/- tele.Split, as the code does it. Conditions: none. -/
set_option linter.unusedVariables false
set_option linter.unusedSimpArgs false
namespace Go.Proofs.Ytooaiddfokbffaa.E
open Go Go.Proofs
attribute [local go_sem] s_seq s_ops s_draw s_block s_skip s_ret s_exit i_nil i_cons i_run i_runG s_condQ c_true c_false aop ev_t ev_c updO_at updO_no upd_at t_normal t_ret t_exit b_normal b_ret b_exit a_some ac_v ac_agg ac_ptr ac_slc ac_ro ac_rop ac_fn new_next set_next argTm_zero argTm_succ argTm_nil ab_bool ab_uv beq_self_eq_true Option.some_beq_some Bool.not_not beq_iff_eq decide_true decide_false Bool.not_true Bool.not_false afld aload astore apack alen_str alen_ro alen_slc alen_nil new_get set_get ite_true ite_false Option.map_some Option.bind_some ibin isShift Nat.add_zero Nat.zero_add List.length_cons List.length_nil List.drop_zero List.drop_succ_cons List.take_succ_cons List.take_zero if_true if_false setL List.set_cons_zero List.set_cons_succ List.all_cons List.all_nil one_int one_bool one_str one_nil one_ptr one_slc one_ro one_rop one_fn Bool.and_self Bool.and_true true_and and_true and_self Bool.false_eq_true post_ret post_normal resAll resOne packR Option.some.injEq exists_eq_left' List.map_cons List.map_nil List.nil_append List.append_nil List.cons_append d_nil d_cons k_nil k_cons g_op g_same g_new avBlock forall_eq' List.getElem?_cons_succ List.getElem?_cons_zero List.getElem?_nil okind gOk bne false_imp_iff forall_const imp_self implies_true true_imp_iff i_callG

/-- The outermost function types of a term, so many. -/
def piN : Nat → Tm → Option (List (Tm × Bool) × Tm)
  | 0, t => some ([], t)
  | n + 1, .mk f m h s lv ks => if f = 3 then (match ks with | [a, b] => (piN n b).map fun p => ((a, h) :: p.1, p.2) | _ => none) else none
theorem piN_no {n : Nat} {f m : Int} {h : Bool} {s : ByteArray} {lv : List Lv} {ks : List Tm} (hf : f ≠ 3) : piN (n + 1) (.mk f m h s lv ks) = none := by
  unfold piN
  rw [if_neg hf]
theorem piN_yes {n : Nat} {m : Int} {h : Bool} {s : ByteArray} {lv : List Lv} {a b : Tm} : piN (n + 1) (.mk 3 m h s lv [a, b]) = (piN n b).map fun p => ((a, h) :: p.1, p.2) := by rw [piN, if_pos rfl]

/-- A function type has two parts. -/
def Pp (t : Tm) : Prop := t.form = 3 → t.kids.length = 2
theorem form_pp (r : Lv → Bool) : ∀ t, allF (formF r) t = true → Tm.All Pp t := by
  refine Tm.rule fun f n hd s lv ks ih h => ?_
  simp only [allF, Bool.and_eq_true] at h
  obtain ⟨h1, h2⟩ := h
  simp only [Tm.All]
  refine ⟨fun hf => ?_, ?_⟩
  · have hk : kidsF f = (ks.length : Int) := by
      rcases Classical.em (kidsF f = (ks.length : Int)) with h' | h'
      · exact h'
      · unfold formF at h1
        rw [if_pos (by exact h')] at h1
        cases h1
    have hf : f = 3 := hf
    subst hf
    have : kidsF 3 = 2 := by decide
    show ks.length = 2
    omega
  · have key : ∀ ks', (∀ k ∈ ks', k ∈ ks) → allK (formF r) ks' = true → Tm.AllL Pp ks' := by
      intro ks'
      induction ks' with
      | nil => intro _ _; trivial
      | cons k q ih' =>
        intro hm h
        simp only [allK, Bool.and_eq_true] at h
        exact ⟨ih k (hm k (List.mem_cons_self ..)) h.1, ih' (fun k hk => hm k (List.mem_cons_of_mem _ hk)) h.2⟩
    exact key ks (fun _ h => h) h2

/-- The two parts of a function type, out of its cells. -/
theorem pi_parts {n : Int} {hid : Bool} {s : ByteArray} {lv : List Lv} {ks : List Tm} {c : List AV} (hap : Tm.All Pp (.mk 3 n hid s lv ks)) (hu : TmP (.mk 3 n hid s lv ks) c) :
    ∃ (k0 k1 : Tm) (lx kx : AV) (cs kc0 kc1 : List AV), ks = [k0, k1] ∧ c = [aint 3, aint n, abl hid, .v (.string s), lx, kx] ∧ lx.one = true ∧ lx.acells = [lx] ∧ kx.one = true ∧ kx.acells = [kx] ∧ aix 6 (0 : Int) kx = some (.rop cs 0) ∧ aix 6 (1 : Int) kx = some (.rop cs 6) ∧ 12 ≤ cs.length ∧
      cs.take 6 = kc0 ∧ (cs.drop 6).take 6 = kc1 ∧ TmP k0 kc0 ∧ TmP k1 kc1 ∧ Tm.All Pp k1 := by
  simp only [Tm.All, Pp, Tm.form, Tm.kids] at hap
  have hk2l : ks.length = 2 := hap.1 trivial
  obtain ⟨k0, k1, rfl⟩ : ∃ a b, ks = [a, b] := by
    match ks, hk2l with
    | [a, b], _ => exact ⟨a, b, rfl⟩
  simp only [Tm.AllL] at hap
  obtain ⟨lx, kx, ls, cs, rfl, hl1, hl2, hk1, hk2⟩ := hu.1.six
  simp only [Tm.kids] at hk1 hk2
  have hcso : ∀ y ∈ cs, Old 0 y := by
    have hko : Old 0 kx := hu.2 kx (by simp)
    rcases hk1 with ⟨h, _⟩ | ⟨lo, ex, rfl, _⟩
    · simp at h
    · cases hko with | ro _ _ _ _ h => exact h
  have hix0 := hk1.aix 6 (i := 0) (by simp)
  have hix1 := hk1.aix 6 (i := 1) (by simp)
  obtain ⟨kc0, hkc0, hle0, hld0⟩ := hk2.load (i := 0) (k := k0) rfl
  obtain ⟨kc1, hkc1, hle1, hld1⟩ := hk2.load (i := 1) (k := k1) rfl
  have hP0 : TmP k0 kc0 := ⟨hkc0, fun y hy => hcso y (by rw [← hld0] at hy; exact List.mem_of_mem_drop (List.mem_of_mem_take hy))⟩
  have hP1 : TmP k1 kc1 := ⟨hkc1, fun y hy => hcso y (by rw [← hld1] at hy; exact List.mem_of_mem_drop (List.mem_of_mem_take hy))⟩
  exact ⟨k0, k1, lx, kx, cs, kc0, kc1, rfl, rfl, hl1.one, hl1.cells, hk1.one, hk1.cells, hix0, hix1, by omega, by simpa using hld0, by simpa using hld1, hP0, hP1, hap.2.2.1⟩

theorem cleanK_app : ∀ (a b : List Tm), cleanK (a ++ b) = cleanK a ++ cleanK b
  | [], b => by simp [cleanK]
  | k :: r, b => by
    simp only [List.cons_append, cleanK]
    rw [cleanK_app r b]

/-- What Split answers. -/
def SplR (o : Option (List (Tm × Bool) × Tm)) (r : AV) : Prop := ∃ x y c ok, r = .tup [x, y, .agg c, abl ok] ∧ (match o with
  | none => x = nils ∧ y = nils ∧ c = z6 ∧ ok = false
  | some p => SlK (cleanK (p.1.map (·.1))) x ∧ HidR (p.1.map (·.2)) y ∧ TmP (cleanT p.2) c ∧ ok = true)

set_option maxRecDepth 100000 in
theorem split_ok (t : Tm) (ht : Tm.All TmB t) (hc : checkF canF t = 0) (cells : List AV) (hT : TmP t cells) (n : Nat) (hn : n ≤ 4611686018427387904) (H : AHeap) :
    SCall Try.prog 37 [.agg cells, aint n] H fun r H' => SplR (piN n t) r ∧ H' = H := by
  have hT' := hT
  obtain ⟨lx0, kx0, hc6, p1, p2, p3, p4, p5, p6, p7, p8⟩ := hT.six
  have e1 : ¬ H.next = H.next + 1 := by omega
  have e2 : ¬ H.next + 1 = H.next := by omega
  have hap := form_pp canF t (check_form hc).2
  obtain ⟨hz1, hz2⟩ := check_sz hc
  refine SCall.frz (R := fun r H' => Ext H H' ∧ ∃ y, FrzN H.next H' r y ∧ SplR (piN n t) y) ?_ (fun _ _ x H' ⟨h1, y, h2, h3⟩ _ => ⟨h1, y, h2, h3⟩)
  have none_ : ∀ {H' : AHeap}, piN n t = none → ∃ y, FrzN H.next H' (.tup [nils, nils, .agg z6, abl false]) y ∧ SplR (piN n t) y := fun {H'} h => by
    rw [h]
    refine ⟨_, .keep _ (.tup _ fun y hy => ?_), nils, nils, z6, false, rfl, rfl, rfl, rfl, rfl⟩
    simp at hy
    rcases hy with rfl | rfl | rfl
    · exact .v _
    · exact .agg _ fun z hz => (tmp_zero.2 z hz).mono (Nat.zero_le _)
    · exact .v _
  subst hc6
  refine SCall.intro mixed cf37 ?_
  have hn0 : ¬ (n : Int) < 0 := by omega
  simp -implicitDefEqProofs only [c37, go_sem, Nat.reduceEqDiff, Nat.reduceAdd, Nat.reduceLeDiff, ↓reduceIte, reduceCtorEq, Int.reduceBEq, Int.reduceBNe, Int.reduceLT, Int.reduceLE, Int.reduceGT, Int.reduceGE, Int.reduceNeg, Int.reduceAdd, Int.reduceSub, Nat.reduceMul, Nat.reduceLT, Int.reduceToNat, p1, p2, p3, p4, e1, e2, hn0]
  refine i_callA (fs := []) (cs := []) ?_ ?_ (check_ok canF t (tmb_fine ht) _ hT'.1 _) ?_
  · rfl
  · simp -implicitDefEqProofs only [go_sem, Nat.reduceEqDiff, Nat.reduceAdd, Nat.reduceLeDiff, ↓reduceIte, reduceCtorEq, Int.reduceBEq, Int.reduceBNe, Int.reduceLT, Int.reduceLE, Int.reduceGT, Int.reduceGE, Int.reduceNeg, Int.reduceAdd, Int.reduceSub, Nat.reduceMul, Nat.reduceLT, Int.reduceToNat]
  rw [hc]
  rintro x H3 ⟨rfl, rfl⟩
  simp -implicitDefEqProofs only [go_sem, Nat.reduceEqDiff, Nat.reduceAdd, Nat.reduceLeDiff, ↓reduceIte, reduceCtorEq, Int.reduceBEq, Int.reduceBNe, Int.reduceLT, Int.reduceLE, Int.reduceGT, Int.reduceGE, Int.reduceNeg, Int.reduceAdd, Int.reduceSub, Nat.reduceMul, Nat.reduceLT, Int.reduceToNat, p1, p2, p3, p4, e1, e2, hn0]
  refine swp_range n (fun i st => ∃ (u : Tm) (c : List AV) (d : List (Tm × Bool)) (x y : AV) (l : List AV), st.tm 2 = .ptr H.next 0 ∧ st.tm 6 = .ptr (H.next + 1) 0 ∧ st.tm 8 = x ∧ st.tm 9 = y ∧ st.tm 18 = aint n ∧ st.tm 19 = aint i ∧ H.next + 2 ≤ st.heap.next ∧ Ext H st.heap ∧ st.heap.get H.next = some (.cells c) ∧ st.heap.get (H.next + 1) = some (.cells z6) ∧
    Tm.All Pp u ∧ Tm.All TmB u ∧ TmP u c ∧ piN n t = (piN (n - i) u).map (fun p => (d ++ p.1, p.2)) ∧ d.length + szT u ≤ 20000 ∧ htT u ≤ 500 ∧ OutS st.heap (H.next + 2) 6 d.length l x ∧ KsX (cleanK (d.map (·.1))) l ∧ OutS st.heap (H.next + 2) 1 d.length (hidC (d.map (·.2))) y ∧ Two x y) ?_ ?_ ?_
  · refine ⟨t, _, [], nils, nils, [], rfl, rfl, rfl, rfl, rfl, rfl, Nat.le_refl _, ((Ext.refl H).new _).new _, ?_, ?_, hap, ht, hT', ?_, by simpa using hz1, hz2, .nil, rfl, .nil, two_nil _⟩
    · simp -implicitDefEqProofs only [go_sem, Nat.reduceEqDiff, Nat.reduceAdd, Nat.reduceLeDiff, ↓reduceIte, reduceCtorEq, Int.reduceBEq, Int.reduceBNe, Int.reduceLT, Int.reduceLE, Int.reduceGT, Int.reduceGE, Int.reduceNeg, Int.reduceAdd, Int.reduceSub, Nat.reduceMul, Nat.reduceLT, Int.reduceToNat, e1, e2]
    · simp -implicitDefEqProofs only [go_sem, Nat.reduceEqDiff, Nat.reduceAdd, Nat.reduceLeDiff, ↓reduceIte, reduceCtorEq, Int.reduceBEq, Int.reduceBNe, Int.reduceLT, Int.reduceLE, Int.reduceGT, Int.reduceGE, Int.reduceNeg, Int.reduceAdd, Int.reduceSub, Nat.reduceMul, Nat.reduceLT, Int.reduceToNat, e1, e2]
    · rw [Nat.sub_zero]
      cases piN n t with
      | none => rfl
      | some p => rfl
  · rintro i ⟨tm, H2⟩ hi ⟨u, c, d, x, y, l, t2, t6, t8, t9, t18, t19, hnx, hE, g0, g1, hapu, hbu, hu, hpi, hdl, hhu, hO, hX, hO2, hTw⟩
    simp only at t2 t6 t8 t9 t18 t19 hnx hE g0 g1 hO hO2
    have hltI : (i : Int) < (n : Int) := by omega
    have w3 : IntKind.i64.wrap ((i : Int) + 1) = (i : Int) + 1 := i64_ok _ (by omega)
    have hni : n - i = (n - (i + 1)) + 1 := by omega
    rw [hni] at hpi
    obtain ⟨f, m, hid, s, lv, ks⟩ := u
    by_cases hf : f = 3
    case neg =>
      rw [piN_no hf] at hpi
      obtain ⟨ux, vx, hk6, o1, o2, o3, o4, o5, o6, o7, o8⟩ := hu.six
      simp only [Tm.form, Tm.n, Tm.hid, Tm.name] at hk6
      subst hk6
      simp -implicitDefEqProofs only [go_sem, Nat.reduceEqDiff, Nat.reduceAdd, Nat.reduceLeDiff, ↓reduceIte, reduceCtorEq, Int.reduceBEq, Int.reduceBNe, Int.reduceLT, Int.reduceLE, Int.reduceGT, Int.reduceGE, Int.reduceNeg, Int.reduceAdd, Int.reduceSub, Nat.reduceMul, Nat.reduceLT, Int.reduceToNat, t2, t6, t8, t9, t18, t19, hltI, g0, g1, bne' hf, afill]
      exact ⟨hE.set (by omega) _, none_ hpi⟩
    subst hf
    obtain ⟨k0, k1, lx, kx, cs, kc0, kc1, rfl, rfl, q1, q2, q3, q4, i0, i1, l1, d0, d1, hP0, hP1, hap1⟩ := pi_parts hapu hu
    rw [piN_yes] at hpi
    simp only [Tm.All, Tm.AllL] at hbu
    have hsz : szT (.mk 3 m hid s lv [k0, k1]) = 1 + (szT k0 + szT k1) := by simp [szT, szK]
    have hht : htT k0 ≤ 500 ∧ htT k1 ≤ 500 := by
      simp only [htT, htK] at hhu; omega
    obtain ⟨wx, zx, hk7, s1, s2, s3, s4, s5, s6, s7, s8⟩ := hP1.six
    obtain ⟨_, _, _, y1, y2, y3, y4, y5, y6, y7, y8⟩ := hP0.six
    have l0 : 6 ≤ cs.length := by omega
    have l1' : 6 + 6 ≤ cs.length := by omega
    have m0 : ¬ H.next = H2.next := by omega
    have m1 : ¬ H.next + 1 = H2.next := by omega
    have m2 : ¬ H2.next = H.next := by omega
    subst hk7
    simp -implicitDefEqProofs only [go_sem, Nat.reduceEqDiff, Nat.reduceAdd, Nat.reduceLeDiff, ↓reduceIte, reduceCtorEq, Int.reduceBEq, Int.reduceBNe, Int.reduceLT, Int.reduceLE, Int.reduceGT, Int.reduceGE, Int.reduceNeg, Int.reduceAdd, Int.reduceSub, Nat.reduceMul, Nat.reduceLT, Int.reduceToNat, t2, t6, t8, t9, t18, t19, hltI, g0, g1, i0, i1, l0, l1, l1', d0, d1, q1, q2, q3, q4, m0, m1, m2, afill, y7, y8]
    refine i_callA (fs := []) (cs := []) (fid := 76) ?_ ?_ (copy_ok k0 hbu.2.1 (by omega) (by omega) _ hP0 _) ?_
    · rfl
    · simp -implicitDefEqProofs only [go_sem, Nat.reduceEqDiff, Nat.reduceAdd, Nat.reduceLeDiff, ↓reduceIte, reduceCtorEq, Int.reduceBEq, Int.reduceBNe, Int.reduceLT, Int.reduceLE, Int.reduceGT, Int.reduceGE, Int.reduceNeg, Int.reduceAdd, Int.reduceSub, Nat.reduceMul, Nat.reduceLT, Int.reduceToNat]
    rintro z H4 ⟨⟨xc, rfl, hxc⟩, hHH⟩
    have hHH := hHH.symm
    subst hHH
    obtain ⟨ax, bx, hk8, v1, v2, v3, v4, v5, v6', x7, x8⟩ := hxc.six
    subst hk8
    have n4 : ¬ H2.next = H2.next + 1 := by omega
    have n5 : ¬ H2.next + 1 = H2.next := by omega
    have n6 : ¬ H.next = H2.next + 1 := by omega
    have n7 : ¬ H.next + 1 = H2.next + 1 := by omega
    simp -implicitDefEqProofs only [go_sem, Nat.reduceEqDiff, Nat.reduceAdd, Nat.reduceLeDiff, ↓reduceIte, reduceCtorEq, Int.reduceBEq, Int.reduceBNe, Int.reduceLT, Int.reduceLE, Int.reduceGT, Int.reduceGE, Int.reduceNeg, Int.reduceAdd, Int.reduceSub, Nat.reduceMul, Nat.reduceLT, Int.reduceToNat, t2, t6, t8, t9, t18, t19, g0, g1, i0, i1, l0, l1, l1', d0, d1, q1, q2, q3, q4, m0, m1, m2, n4, n5, n6, n7, afill, v1, v2, v3, v4, hO.one, hO.cells, hO2.one, hO2.cells]
    refine ((hO.new _).new _).stepN (m := 1) (new := [aint (cleanT k0).form, aint (cleanT k0).n, abl (cleanT k0).hid, .v (.string (cleanT k0).name), ax, bx]) (asrc_slc (c := [aint (cleanT k0).form, aint (cleanT k0).n, abl (cleanT k0).hid, .v (.string (cleanT k0).name), ax, bx]) (by rw [new_get]; exact if_pos rfl) (by simp)) x8 (by omega) (by omega) ⟨by omega, by omega⟩ rfl fun x' G' r6 r7 r8 => ?_
    simp only [new_next] at r6 r7
    have hGx : ∀ b, b < H2.next → avBlock x ≠ some b → G'.get b = H2.get b := fun b hb hx => by
      rw [r8 b (by simp only [new_next]; omega) (hO.slcb hx), new_get, if_neg (by simp only [new_next]; omega), new_get, if_neg (by omega)]
    have u0 := (hGx _ (by omega) (fun h => by have := (hO.blk h).1; omega)).trans g0
    have u1 := (hGx _ (by omega) (fun h => by have := (hO.blk h).1; omega)).trans g1
    have u2 : G'.get H2.next = some (.cells [abl hid]) := by
      rw [r8 _ (by simp only [new_next]; omega) (hO.high (by omega)), new_get, if_neg (by simp only [new_next]; omega), new_get]; exact if_pos rfl
    have hO2' := hO2.keepB (H' := G') (by omega) fun b hb => hGx b (hO2.blk hb).2 fun h => hTw b h hb
    have hEG : Ext H G' := ⟨by have := hE.1; omega, fun b hb => (hGx b (by omega) (fun h => by have := (hO.blk h).1; omega)).trans (hE.2 b hb)⟩
    have u3 : ((H2.new (.cells [abl hid])).new (.cells [aint (cleanT k0).form, aint (cleanT k0).n, abl (cleanT k0).hid, .v (.string (cleanT k0).name), ax, bx])).get H2.next = some (.cells [abl hid]) := by rw [new_get, if_neg (by simp only [new_next]; omega), new_get]; exact if_pos rfl
    simp -implicitDefEqProofs only [go_sem, Nat.reduceEqDiff, Nat.reduceAdd, Nat.reduceLeDiff, ↓reduceIte, reduceCtorEq, Int.reduceBEq, Int.reduceBNe, Int.reduceLT, Int.reduceLE, Int.reduceGT, Int.reduceGE, Int.reduceNeg, Int.reduceAdd, Int.reduceSub, Nat.reduceMul, Nat.reduceLT, Int.reduceToNat, t2, t6, t8, t9, t18, t19, u0, u1, u2, u3, m0, m1, m2, n4, n5, n6, n7, hO2.one, hO2.cells, r6.one, r6.cells]
    refine hO2'.stepN (m := 1) (new := [abl hid]) (asrc_slc (c := [abl hid]) u2 (by simp)) rfl (by omega) (by omega) ⟨by omega, by omega⟩ rfl fun y' G2 v6 v7 v8 => ?_
    have hG2 : ∀ b, b < G'.next → avBlock y ≠ some b → G2.get b = G'.get b := fun b hb hy => v8 b hb (hO2'.slcb hy)
    have w0 := (hG2 _ (by omega) (fun h => by have := (hO2.blk h).1; omega)).trans u0
    have w1 := (hG2 _ (by omega) (fun h => by have := (hO2.blk h).1; omega)).trans u1
    have r6' := r6.keepB (H' := G2) v7 fun b hb => hG2 b (r6.blk hb).2 fun h => by have := (hO2.blk h).2; have := (r6.blk hb).1; omega
    have hEG2 : Ext H G2 := ⟨by have := hEG.1; omega, fun b hb => (hG2 b (by omega) (fun h => by have := (hO2.blk h).1; omega)).trans (hEG.2 b hb)⟩
    have hTw2 : Two x' y' := fun b h1 h2 => by have := (r6.blk h1).2; have := (v6.blk h2).1; omega
    have m6 : ¬ H.next + 1 = H.next := by omega
    simp -implicitDefEqProofs only [go_sem, Nat.reduceEqDiff, Nat.reduceAdd, Nat.reduceLeDiff, ↓reduceIte, reduceCtorEq, Int.reduceBEq, Int.reduceBNe, Int.reduceLT, Int.reduceLE, Int.reduceGT, Int.reduceGE, Int.reduceNeg, Int.reduceAdd, Int.reduceSub, Nat.reduceMul, Nat.reduceLT, Int.reduceToNat, t2, t6, t8, t9, t18, t19, w0, w1, w3, i0, i1, l0, l1, l1', d0, d1, s1, s2, s3, s4, q1, q2, q3, q4, m6]
    refine ⟨k1, _, d ++ [(k0, hid)], x', y', l ++ [aint (cleanT k0).form, aint (cleanT k0).n, abl (cleanT k0).hid, .v (.string (cleanT k0).name), ax, bx], rfl, rfl, rfl, by omega, hEG2.set (by omega) _, rfl, hap1, hbu.2.2.1, hP1, ?_, by simp only [List.length_append, List.length_cons, List.length_nil]; omega, hht.2, ?_, ?_, ?_, hTw2⟩
    · rw [hpi, Option.map_map]
      congr 1
      funext p
      simp
    · rw [List.length_append]
      exact (r6'.set (r6'.notlow (by omega)) _).low (by omega)
    · rw [List.map_append, cleanK_app]
      exact hX.snoc hxc
    · have hh : hidC ((d ++ [(k0, hid)]).map (·.2)) = hidC (d.map (·.2)) ++ [abl hid] := by simp [hidC]
      rw [List.length_append, hh]
      exact (v6.set (v6.notlow (by omega)) _).low (by omega)
  · rintro ⟨tm, H2⟩ ⟨u, c, d, x, y, l, t2, t6, t8, t9, t18, t19, hnx, hE, g0, g1, hapu, hbu, hu, hpi, hdl, hhu, hO, hX, hO2, hTw⟩
    simp only at t2 t6 t8 t9 t18 t19 hnx hE g0 g1 hO hO2
    obtain ⟨ay, by', hk6, y1, y2, y3, y4, y5, y6, y7, y8⟩ := hu.six
    subst hk6
    simp -implicitDefEqProofs only [go_sem, Nat.reduceEqDiff, Nat.reduceAdd, Nat.reduceLeDiff, ↓reduceIte, reduceCtorEq, Int.reduceBEq, Int.reduceBNe, Int.reduceLT, Int.reduceLE, Int.reduceGT, Int.reduceGE, Int.reduceNeg, Int.reduceAdd, Int.reduceSub, Nat.reduceMul, Nat.reduceLT, Int.reduceToNat, t2, t6, t8, t9, t18, t19, Int.lt_irrefl, g0, g1, y1, y2, y3, y4]
    refine i_callA (fs := []) (cs := []) (fid := 76) ?_ ?_ (copy_ok u hbu (by omega) (by omega) _ hu _) ?_
    · rfl
    · simp -implicitDefEqProofs only [go_sem, Nat.reduceEqDiff, Nat.reduceAdd, Nat.reduceLeDiff, ↓reduceIte, reduceCtorEq, Int.reduceBEq, Int.reduceBNe, Int.reduceLT, Int.reduceLE, Int.reduceGT, Int.reduceGE, Int.reduceNeg, Int.reduceAdd, Int.reduceSub, Nat.reduceMul, Nat.reduceLT, Int.reduceToNat]
    rintro z H4 ⟨⟨xc, rfl, hxc⟩, hHH⟩
    have hHH := hHH.symm
    subst hHH
    obtain ⟨ax, bx, hk8, v1, v2, v3, v4, v5, v6', x7, x8⟩ := hxc.six
    subst hk8
    simp -implicitDefEqProofs only [go_sem, Nat.reduceEqDiff, Nat.reduceAdd, Nat.reduceLeDiff, ↓reduceIte, reduceCtorEq, Int.reduceBEq, Int.reduceBNe, Int.reduceLT, Int.reduceLE, Int.reduceGT, Int.reduceGE, Int.reduceNeg, Int.reduceAdd, Int.reduceSub, Nat.reduceMul, Nat.reduceLT, Int.reduceToNat, t2, t6, t8, t9, t18, t19, g0, g1, e1, e2, v1, v2, v3, v4, hO.one, hO.cells, hO2.one, hO2.cells]
    refine ⟨hE.set (by omega) _, ?_⟩
    have hOf := hO.set (b' := H.next + 1) (hO.notlow (by omega)) (.cells [aint (cleanT u).form, aint (cleanT u).n, abl (cleanT u).hid, .v (.string (cleanT u).name), ax, bx])
    have hOg := hO2.set (b' := H.next + 1) (hO2.notlow (by omega)) (.cells [aint (cleanT u).form, aint (cleanT u).n, abl (cleanT u).hid, .v (.string (cleanT u).name), ax, bx])
    obtain ⟨zx, f1, f2⟩ := hOf.frzOld (N := H.next) (by omega) (fun y hy => (hX.old y hy).mono (Nat.zero_le _))
    obtain ⟨zy, f3, f4⟩ := hOg.frzOld (N := H.next) (by omega) (hidC_old _ _)
    have hl1 : d.length = (cleanK (d.map (·.1))).length := by rw [cleanK_len]; simp
    have hl2 : d.length = (d.map (·.2)).length := by simp
    rw [hl1] at f2
    rw [hl2] at f4
    have hpe : piN n t = some (d, u) := by
      rw [hpi, Nat.sub_self]
      simp [piN]
    rw [hpe]
    refine ⟨.tup [zx, zy, .agg [aint (cleanT u).form, aint (cleanT u).n, abl (cleanT u).hid, .v (.string (cleanT u).name), ax, bx], abl true], .tup _ _ rfl fun i x y hx hy => ?_, zx, zy, _, true, rfl, SlK.of hX f2, hid_of f4, hxc, rfl⟩
    match i, hx, hy with
    | 0, hx, hy => simp at hx hy; subst hx hy; exact f1
    | 1, hx, hy => simp at hx hy; subst hx hy; exact f3
    | 2, hx, hy => simp at hx hy; subst hx hy; exact .keep _ (.agg _ fun z hz => (hxc.2 z hz).mono (Nat.zero_le _))
    | 3, hx, hy => simp at hx hy; subst hx hy; exact .keep _ (.v _)
    | i + 4, hx, hy => simp at hx
end Go.Proofs.Ytooaiddfokbffaa.E

/- The example of the law TeleSpine, but for tele.bind. Conditions: none. -/
set_option linter.unusedVariables false
set_option linter.unusedSimpArgs false
namespace Go.Proofs.Ytooaiddfokbffaa.E
open Go Go.Proofs
attribute [local go_sem] s_seq s_ops s_draw s_block s_skip s_ret s_exit i_nil i_cons i_run i_runG s_condQ c_true c_false aop ev_t ev_c updO_at updO_no upd_at t_normal t_ret t_exit b_normal b_ret b_exit a_some ac_v ac_agg ac_ptr ac_slc ac_ro ac_rop ac_fn new_next set_next argTm_zero argTm_succ argTm_nil ab_bool ab_uv beq_self_eq_true Option.some_beq_some Bool.not_not beq_iff_eq decide_true decide_false Bool.not_true Bool.not_false afld aload astore apack alen_str alen_ro alen_slc alen_nil new_get set_get ite_true ite_false Option.map_some Option.bind_some ibin isShift Nat.add_zero Nat.zero_add List.length_cons List.length_nil List.drop_zero List.drop_succ_cons List.take_succ_cons List.take_zero if_true if_false setL List.set_cons_zero List.set_cons_succ List.all_cons List.all_nil one_int one_bool one_str one_nil one_ptr one_slc one_ro one_rop one_fn Bool.and_self Bool.and_true true_and and_true and_self Bool.false_eq_true post_ret post_normal resAll resOne packR Option.some.injEq exists_eq_left' List.map_cons List.map_nil List.nil_append List.append_nil List.cons_append d_nil d_cons k_nil k_cons g_op g_same g_new avBlock forall_eq' List.getElem?_cons_succ List.getElem?_cons_zero List.getElem?_nil okind gOk bne false_imp_iff forall_const imp_self implies_true true_imp_iff i_callG

/-- The sort of level 0, as the code makes it. -/
def set0 : Tm := .mk 2 0 false (ByteArray.mk #[]) [⟨0, []⟩] []
theorem set0P_ok (H : AHeap) : SCall Try.prog 23 [aint 0] H fun x H' => (∃ c, x = .agg c ∧ TmP set0 c) ∧ H' = H := by
  refine SCall.frz (G := fun x => ∃ c, x = .agg c ∧ TmP set0 c) (set_ok H) ?_
  rintro _ _ x H' ⟨⟨⟨b, h1, rfl, h2⟩, hE⟩, _⟩ _
  have hf : FrzN H.next H' (.slc b 0 2 1 1 true) (.ro 1 1 true [aint 0, nils]) := by
    refine .slc _ _ _ _ _ _ _ _ h2 h1 (by simp) fun i x y hx hy => ?_
    match i, hx, hy with
    | 0, hx, hy => simp at hx hy; subst hx hy; exact .keep _ (.v _)
    | 1, hx, hy => simp at hx hy; subst hx hy; exact .keep _ (.v _)
    | i + 2, hx, hy => simp at hx
  have hs : SlL [⟨0, []⟩] (.ro 1 1 true [aint 0, nils]) := SlL.of (cs := [aint 0, nils]) ⟨nils, [], rfl, slv_nil, rfl⟩ (.inr ⟨1, true, rfl, Nat.le_refl _⟩)
  exact ⟨hE, _, FrzN.six (.keep _ (.v _)) (.keep _ (.v _)) (.keep _ (.v _)) (.keep _ (.v _)) hf (.keep _ (.v _)), _, rfl, tmp_bare hs⟩

theorem avar_ok (n : Int) (H : AHeap) : SCall Try.prog 73 [aint n] H fun x H' => x = .agg [aint 1, aint n, abl false, nostr, nils, nils] ∧ H' = H := by
  refine SCall.valO (.agg _ fun y hy => by simp at hy; rcases hy with rfl | rfl | rfl | rfl | rfl <;> exact .v _) (SCall.intro mixed cf73 ?_)
  simp -implicitDefEqProofs only [c73, go_sem, Nat.reduceEqDiff, Nat.reduceAdd, Nat.reduceLeDiff, ↓reduceIte, reduceCtorEq, Int.reduceBEq, Int.reduceBNe, Int.reduceLT, Int.reduceLE, Int.reduceGT, Int.reduceGE, Int.reduceNeg, Int.reduceAdd, Int.reduceSub, Nat.reduceMul, Nat.reduceLT, Int.reduceToNat, afill]
  exact ((Ext.refl H).new _).set (by omega) _

/-- The term of the example. -/
def piEx : Tm := .mk 3 0 false zeroS [] [set0, .mk 3 0 false zeroS [] [varTm 0, varTm 1]]
theorem piEx_check : checkF canF piEx = 0 := by decide
theorem piEx_split : piN 2 piEx = some ([(set0, false), (varTm 0, false)], varTm 1) := rfl
theorem piEx_b : Tm.All TmB piEx := by
  simp [piEx, set0, varTm, Tm.All, Tm.AllL, TmB, Tm.form, Tm.n, Tm.hid, Tm.name, Tm.lv, Tm.kids, Rng, zeroS, LvB]
  decide

theorem tmb1 : Tm.All TmB (varTm 1) := by
  simp [varTm, Tm.All, Tm.AllL, TmB, Tm.form, Tm.n, Tm.hid, Tm.name, Tm.lv, Tm.kids, Rng, zeroS, LvB]
  decide
theorem tmb0 : Tm.All TmB set0 := by
  simp [set0, Tm.All, Tm.AllL, TmB, Tm.form, Tm.n, Tm.hid, Tm.name, Tm.lv, Tm.kids, Rng, zeroS, LvB]
  decide

/-- What is asked of tele.bind. -/
def BindEx : Prop := ∀ (b : Nat) (k0 k1 : List AV) (H : AHeap), TmP set0 k0 → TmP (varTm 0) k1 → H.get b = some (.cells (k0 ++ k1)) → b < H.next →
  SCall Try.prog 89 [aint 3, .slc b 0 6 2 2 true, nils, .agg [aint 1, aint 1, abl false, nostr, nils, nils]] H fun x H' => (∃ c, x = .tup [.agg c, aint 0] ∧ TmP piEx c) ∧ H' = H

theorem pis_ok (hB : BindEx) (b : Nat) (k0 k1 : List AV) (H : AHeap) (h0 : TmP set0 k0) (h1 : TmP (varTm 0) k1) (hg : H.get b = some (.cells (k0 ++ k1))) (hb : b < H.next) :
    SCall Try.prog 35 [.slc b 0 6 2 2 true, nils, .agg [aint 1, aint 1, abl false, nostr, nils, nils]] H fun x H' => (∃ c, x = .tup [.agg c, aint 0] ∧ TmP piEx c) ∧ H' = H := by
  refine SCall.frz (G := fun x => ∃ c, x = .tup [.agg c, aint 0] ∧ TmP piEx c) (R := fun x H' => Ext H H' ∧ ∃ c, x = .tup [.agg c, aint 0] ∧ TmP piEx c) (SCall.intro mixed cf35 ?_) ?_
  · have e1 : ¬ H.next = H.next + 1 := by omega
    have e2 : ¬ H.next + 1 = H.next := by omega
    have e3 : ¬ b = H.next := by omega
    have e4 : ¬ b = H.next + 1 := by omega
    simp -implicitDefEqProofs only [c35, go_sem, Nat.reduceEqDiff, Nat.reduceAdd, Nat.reduceLeDiff, ↓reduceIte, reduceCtorEq, Int.reduceBEq, Int.reduceBNe, Int.reduceLT, Int.reduceLE, Int.reduceGT, Int.reduceGE, Int.reduceNeg, Int.reduceAdd, Int.reduceSub, Nat.reduceMul, Nat.reduceLT, Int.reduceToNat, afill, e1, e2]
    refine i_callA (fs := []) (cs := []) (fid := 89) ?_ ?_ (hB b k0 k1 _ h0 h1 (by rw [new_get, if_neg (by simp only [new_next]; omega), new_get, if_neg (by omega)]; exact hg) (by simp only [new_next]; omega)) ?_
    · rfl
    · simp -implicitDefEqProofs only [go_sem, Nat.reduceEqDiff, Nat.reduceAdd, Nat.reduceLeDiff, ↓reduceIte, reduceCtorEq, Int.reduceBEq, Int.reduceBNe, Int.reduceLT, Int.reduceLE, Int.reduceGT, Int.reduceGE, Int.reduceNeg, Int.reduceAdd, Int.reduceSub, Nat.reduceMul, Nat.reduceLT, Int.reduceToNat]
    rintro z H4 ⟨⟨xc, rfl, hxc⟩, hHH⟩
    have hHH := hHH.symm
    subst hHH
    obtain ⟨ax, bx, hk8, v1, v2, v3, v4, v5, v6', x7, x8⟩ := hxc.six
    subst hk8
    simp -implicitDefEqProofs only [go_sem, Nat.reduceEqDiff, Nat.reduceAdd, Nat.reduceLeDiff, ↓reduceIte, reduceCtorEq, Int.reduceBEq, Int.reduceBNe, Int.reduceLT, Int.reduceLE, Int.reduceGT, Int.reduceGE, Int.reduceNeg, Int.reduceAdd, Int.reduceSub, Nat.reduceMul, Nat.reduceLT, Int.reduceToNat, e1, e2, v1, v2, v3, v4]
    exact ⟨(((Ext.refl H).new _).new _).set (by omega) _, _, rfl, hxc⟩
  · rintro _ _ x H' ⟨hE, c, rfl, hc⟩ _
    refine ⟨hE, _, .keep _ (.tup _ fun y hy => ?_), c, rfl, hc⟩
    simp at hy
    rcases hy with rfl | rfl
    · exact .agg _ fun z hz => (hc.2 z hz).mono (Nat.zero_le _)
    · exact .v _

theorem id36_ok (n : Int) (H : AHeap) : SCall Try.prog 36 [aint n] H fun x H' => x = aint n ∧ H' = H := by
  refine SCall.val (SCall.intro mixed cf36 ?_)
  simp -implicitDefEqProofs only [c36, go_sem, Nat.reduceEqDiff, Nat.reduceAdd, Nat.reduceLeDiff, ↓reduceIte, reduceCtorEq, Int.reduceBEq, Int.reduceBNe, Int.reduceLT, Int.reduceLE, Int.reduceGT, Int.reduceGE, Int.reduceNeg, Int.reduceAdd, Int.reduceSub, Nat.reduceMul, Nat.reduceLT, Int.reduceToNat]
  exact Ext.refl H

set_option maxRecDepth 100000 in
theorem aliveSp_of (hB : BindEx) (H : AHeap) : SCall Try.prog 28 [] H fun x H' => x = abl true ∧ H' = H := by
  refine SCall.val (SCall.intro mixed cf28 ?_)
  have e1 : ¬ H.next = H.next + 1 := by omega
  have e2 : ¬ H.next + 1 = H.next := by omega
  simp -implicitDefEqProofs only [c28, go_sem, Nat.reduceEqDiff, Nat.reduceAdd, Nat.reduceLeDiff, ↓reduceIte, reduceCtorEq, Int.reduceBEq, Int.reduceBNe, Int.reduceLT, Int.reduceLE, Int.reduceGT, Int.reduceGE, Int.reduceNeg, Int.reduceAdd, Int.reduceSub, Nat.reduceMul, Nat.reduceLT, Int.reduceToNat]
  refine i_callA (fs := []) (cs := []) (fid := 23) ?_ ?_ (set0P_ok _) ?_
  · rfl
  · simp -implicitDefEqProofs only [go_sem, Nat.reduceEqDiff, Nat.reduceAdd, Nat.reduceLeDiff, ↓reduceIte, reduceCtorEq, Int.reduceBEq, Int.reduceBNe, Int.reduceLT, Int.reduceLE, Int.reduceGT, Int.reduceGE, Int.reduceNeg, Int.reduceAdd, Int.reduceSub, Nat.reduceMul, Nat.reduceLT, Int.reduceToNat]
  rintro z H4 ⟨⟨xc, rfl, hxc⟩, hHH⟩
  have hHH := hHH.symm
  subst hHH
  obtain ⟨ax, bx, hk8, v1, v2, v3, v4, v5, v6', x7, x8⟩ := hxc.six
  subst hk8
  simp -implicitDefEqProofs only [go_sem, Nat.reduceEqDiff, Nat.reduceAdd, Nat.reduceLeDiff, ↓reduceIte, reduceCtorEq, Int.reduceBEq, Int.reduceBNe, Int.reduceLT, Int.reduceLE, Int.reduceGT, Int.reduceGE, Int.reduceNeg, Int.reduceAdd, Int.reduceSub, Nat.reduceMul, Nat.reduceLT, Int.reduceToNat]
  refine i_callA (fs := []) (cs := []) (fid := 73) ?_ ?_ (avar_ok 0 _) ?_
  · rfl
  · simp -implicitDefEqProofs only [go_sem, Nat.reduceEqDiff, Nat.reduceAdd, Nat.reduceLeDiff, ↓reduceIte, reduceCtorEq, Int.reduceBEq, Int.reduceBNe, Int.reduceLT, Int.reduceLE, Int.reduceGT, Int.reduceGE, Int.reduceNeg, Int.reduceAdd, Int.reduceSub, Nat.reduceMul, Nat.reduceLT, Int.reduceToNat]
  rintro z H4 ⟨rfl, hHH⟩
  have hHH := hHH.symm
  subst hHH
  simp -implicitDefEqProofs only [go_sem, Nat.reduceEqDiff, Nat.reduceAdd, Nat.reduceLeDiff, ↓reduceIte, reduceCtorEq, Int.reduceBEq, Int.reduceBNe, Int.reduceLT, Int.reduceLE, Int.reduceGT, Int.reduceGE, Int.reduceNeg, Int.reduceAdd, Int.reduceSub, Nat.reduceMul, Nat.reduceLT, Int.reduceToNat, v1, v2, v3, v4]
  refine i_callA (fs := []) (cs := []) (fid := 73) ?_ ?_ (avar_ok 1 _) ?_
  · rfl
  · simp -implicitDefEqProofs only [go_sem, Nat.reduceEqDiff, Nat.reduceAdd, Nat.reduceLeDiff, ↓reduceIte, reduceCtorEq, Int.reduceBEq, Int.reduceBNe, Int.reduceLT, Int.reduceLE, Int.reduceGT, Int.reduceGE, Int.reduceNeg, Int.reduceAdd, Int.reduceSub, Nat.reduceMul, Nat.reduceLT, Int.reduceToNat]
  rintro z H4 ⟨rfl, hHH⟩
  have hHH := hHH.symm
  subst hHH
  simp -implicitDefEqProofs only [go_sem, Nat.reduceEqDiff, Nat.reduceAdd, Nat.reduceLeDiff, ↓reduceIte, reduceCtorEq, Int.reduceBEq, Int.reduceBNe, Int.reduceLT, Int.reduceLE, Int.reduceGT, Int.reduceGE, Int.reduceNeg, Int.reduceAdd, Int.reduceSub, Nat.reduceMul, Nat.reduceLT, Int.reduceToNat, v1, v2, v3, v4]
  refine i_callA (fs := []) (cs := []) (fid := 35) ?_ ?_ (pis_ok hB H.next [aint set0.form, aint set0.n, abl set0.hid, .v (.string set0.name), ax, bx] [aint 1, aint 0, abl false, nostr, nils, nils] _ hxc (tmp_var 0) (by rw [new_get, if_pos rfl]; rfl) (by simp only [new_next]; omega)) ?_
  · rfl
  · simp -implicitDefEqProofs only [go_sem, Nat.reduceEqDiff, Nat.reduceAdd, Nat.reduceLeDiff, ↓reduceIte, reduceCtorEq, Int.reduceBEq, Int.reduceBNe, Int.reduceLT, Int.reduceLE, Int.reduceGT, Int.reduceGE, Int.reduceNeg, Int.reduceAdd, Int.reduceSub, Nat.reduceMul, Nat.reduceLT, Int.reduceToNat]
  rintro z H4 ⟨⟨pc, rfl, hpc⟩, hHH⟩
  have hHH := hHH.symm
  subst hHH
  obtain ⟨ay, by', hk9, w1, w2, w3, w4, w5, w6, w7, w8⟩ := hpc.six
  subst hk9
  simp -implicitDefEqProofs only [go_sem, Nat.reduceEqDiff, Nat.reduceAdd, Nat.reduceLeDiff, ↓reduceIte, reduceCtorEq, Int.reduceBEq, Int.reduceBNe, Int.reduceLT, Int.reduceLE, Int.reduceGT, Int.reduceGE, Int.reduceNeg, Int.reduceAdd, Int.reduceSub, Nat.reduceMul, Nat.reduceLT, Int.reduceToNat, w1, w2, w3, w4, afill]
  refine i_callA (fs := []) (cs := []) (fid := 37) ?_ ?_ (split_ok piEx piEx_b piEx_check _ hpc 2 (by omega) _) ?_
  · rfl
  · simp -implicitDefEqProofs only [go_sem, Nat.reduceEqDiff, Nat.reduceAdd, Nat.reduceLeDiff, ↓reduceIte, reduceCtorEq, Int.reduceBEq, Int.reduceBNe, Int.reduceLT, Int.reduceLE, Int.reduceGT, Int.reduceGE, Int.reduceNeg, Int.reduceAdd, Int.reduceSub, Nat.reduceMul, Nat.reduceLT, Int.reduceToNat, w1, w2, w3, w4]
    rfl
  rw [piEx_split]
  rintro z H4 ⟨⟨x, y, c, ok, rfl, hx, hy, hc, rfl⟩, hHH⟩
  have hHH := hHH.symm
  subst hHH
  obtain ⟨az, bz, hk5, u1, u2, u3, u4, u5, u6, u7, u8⟩ := hc.six
  subst hk5
  have hxo := hx.2
  have c2 : ((2 : Nat) : Int) = 2 := rfl
  obtain ⟨⟨cs, hk1, hk2⟩, _⟩ := hx
  have q1 := hk1.one
  have q2 := hk1.cells
  have q3 : ∀ G : AHeap, alen G .slice x = some 2 := fun G => hk1.alen G
  have i0 : aix 6 (0 : Int) x = some (.rop cs 0) := hk1.aix 6 (i := 0) (by simp [cleanK])
  obtain ⟨kc0, hkc0, hle0, hld0⟩ := hk2.load (i := 0) (k := set0) rfl
  have l0 : 6 ≤ cs.length := by omega
  have d0 : cs.take 6 = kc0 := by simpa using hld0
  obtain ⟨aw, bw, ls, ds, hk5, g1, g2, g3, g4⟩ := hkc0.six
  have r1 := g1.one
  have r2 := g1.cells
  have r3 := g3.one
  have r4 := g3.cells
  subst hk5
  simp -implicitDefEqProofs only [go_sem, Nat.reduceEqDiff, Nat.reduceAdd, Nat.reduceLeDiff, ↓reduceIte, reduceCtorEq, Int.reduceBEq, Int.reduceBNe, Int.reduceLT, Int.reduceLE, Int.reduceGT, Int.reduceGE, Int.reduceNeg, Int.reduceAdd, Int.reduceSub, Nat.reduceMul, Nat.reduceLT, Int.reduceToNat, u1, u2, u3, u4, afill, q1, q2, q3]
  refine i_callA (fs := []) (cs := []) (fid := 36) ?_ ?_ (id36_ok 0 _) ?_
  · rfl
  · simp -implicitDefEqProofs only [go_sem, Nat.reduceEqDiff, Nat.reduceAdd, Nat.reduceLeDiff, ↓reduceIte, reduceCtorEq, Int.reduceBEq, Int.reduceBNe, Int.reduceLT, Int.reduceLE, Int.reduceGT, Int.reduceGE, Int.reduceNeg, Int.reduceAdd, Int.reduceSub, Nat.reduceMul, Nat.reduceLT, Int.reduceToNat]
  rintro z H4 ⟨rfl, hHH⟩
  have hHH := hHH.symm
  subst hHH
  simp -implicitDefEqProofs only [go_sem, Nat.reduceEqDiff, Nat.reduceAdd, Nat.reduceLeDiff, ↓reduceIte, reduceCtorEq, Int.reduceBEq, Int.reduceBNe, Int.reduceLT, Int.reduceLE, Int.reduceGT, Int.reduceGE, Int.reduceNeg, Int.reduceAdd, Int.reduceSub, Nat.reduceMul, Nat.reduceLT, Int.reduceToNat, u1, u2, u3, u4, afill, q1, q2, q3, e1, e2, c2, g_opG]
  refine i_callA (fs := []) (cs := []) (fid := 73) ?_ ?_ (avar_ok 1 _) ?_
  · rfl
  · simp -implicitDefEqProofs only [go_sem, Nat.reduceEqDiff, Nat.reduceAdd, Nat.reduceLeDiff, ↓reduceIte, reduceCtorEq, Int.reduceBEq, Int.reduceBNe, Int.reduceLT, Int.reduceLE, Int.reduceGT, Int.reduceGE, Int.reduceNeg, Int.reduceAdd, Int.reduceSub, Nat.reduceMul, Nat.reduceLT, Int.reduceToNat]
  rintro z H4 ⟨rfl, hHH⟩
  have hHH := hHH.symm
  subst hHH
  simp -implicitDefEqProofs only [go_sem, Nat.reduceEqDiff, Nat.reduceAdd, Nat.reduceLeDiff, ↓reduceIte, reduceCtorEq, Int.reduceBEq, Int.reduceBNe, Int.reduceLT, Int.reduceLE, Int.reduceGT, Int.reduceGE, Int.reduceNeg, Int.reduceAdd, Int.reduceSub, Nat.reduceMul, Nat.reduceLT, Int.reduceToNat, u1, u2, u3, u4, afill, q1, q2, q3, e1, e2, c2, g_opG]
  refine i_callA (fs := []) (cs := []) (fid := 22) ?_ ?_ (exact_ok (varTm 1) tmb1 _ _ hc.1 (tmp_var 1).1 _) ?_
  · rfl
  · simp -implicitDefEqProofs only [go_sem, Nat.reduceEqDiff, Nat.reduceAdd, Nat.reduceLeDiff, ↓reduceIte, reduceCtorEq, Int.reduceBEq, Int.reduceBNe, Int.reduceLT, Int.reduceLE, Int.reduceGT, Int.reduceGE, Int.reduceNeg, Int.reduceAdd, Int.reduceSub, Nat.reduceMul, Nat.reduceLT, Int.reduceToNat]
  rintro z H4 ⟨rfl, hHH⟩
  have hHH := hHH.symm
  subst hHH
  simp -implicitDefEqProofs only [go_sem, Nat.reduceEqDiff, Nat.reduceAdd, Nat.reduceLeDiff, ↓reduceIte, reduceCtorEq, Int.reduceBEq, Int.reduceBNe, Int.reduceLT, Int.reduceLE, Int.reduceGT, Int.reduceGE, Int.reduceNeg, Int.reduceAdd, Int.reduceSub, Nat.reduceMul, Nat.reduceLT, Int.reduceToNat, u1, u2, u3, u4, afill, q1, q2, q3, e1, e2, c2, g_opG, i0, l0, d0, r1, r2, r3, r4]
  refine i_callA (fs := []) (cs := []) (fid := 23) ?_ ?_ (set0P_ok _) ?_
  · rfl
  · simp -implicitDefEqProofs only [go_sem, Nat.reduceEqDiff, Nat.reduceAdd, Nat.reduceLeDiff, ↓reduceIte, reduceCtorEq, Int.reduceBEq, Int.reduceBNe, Int.reduceLT, Int.reduceLE, Int.reduceGT, Int.reduceGE, Int.reduceNeg, Int.reduceAdd, Int.reduceSub, Nat.reduceMul, Nat.reduceLT, Int.reduceToNat]
  rintro z H4 ⟨⟨xc, rfl, hxc2⟩, hHH⟩
  have hHH := hHH.symm
  subst hHH
  simp -implicitDefEqProofs only [go_sem, Nat.reduceEqDiff, Nat.reduceAdd, Nat.reduceLeDiff, ↓reduceIte, reduceCtorEq, Int.reduceBEq, Int.reduceBNe, Int.reduceLT, Int.reduceLE, Int.reduceGT, Int.reduceGE, Int.reduceNeg, Int.reduceAdd, Int.reduceSub, Nat.reduceMul, Nat.reduceLT, Int.reduceToNat, u1, u2, u3, u4, afill, q1, q2, q3, e1, e2, c2, g_opG, i0, l0, d0, r1, r2, r3, r4]
  refine i_callA (fs := []) (cs := []) (fid := 22) ?_ ?_ (exact_ok set0 tmb0 _ _ hkc0 hxc2.1 _) ?_
  · rfl
  · simp -implicitDefEqProofs only [go_sem, Nat.reduceEqDiff, Nat.reduceAdd, Nat.reduceLeDiff, ↓reduceIte, reduceCtorEq, Int.reduceBEq, Int.reduceBNe, Int.reduceLT, Int.reduceLE, Int.reduceGT, Int.reduceGE, Int.reduceNeg, Int.reduceAdd, Int.reduceSub, Nat.reduceMul, Nat.reduceLT, Int.reduceToNat]
  rintro z H4 ⟨rfl, hHH⟩
  have hHH := hHH.symm
  subst hHH
  simp -implicitDefEqProofs only [go_sem, Nat.reduceEqDiff, Nat.reduceAdd, Nat.reduceLeDiff, ↓reduceIte, reduceCtorEq, Int.reduceBEq, Int.reduceBNe, Int.reduceLT, Int.reduceLE, Int.reduceGT, Int.reduceGE, Int.reduceNeg, Int.reduceAdd, Int.reduceSub, Nat.reduceMul, Nat.reduceLT, Int.reduceToNat]
  exact ((((Ext.refl H).new _).new _).set (by omega) _ |>.new _).set (by omega) _
end Go.Proofs.Ytooaiddfokbffaa.E

/- A term of two parts, as tele's bind makes it (function 136). Conditions: none. -/
set_option linter.unusedVariables false
set_option linter.unusedSimpArgs false
namespace Go.Proofs.Ytooaiddfokbffaa.E
open Go Go.Proofs
attribute [local go_sem] s_seq s_ops s_draw s_block s_skip s_ret s_exit i_nil i_cons i_run i_runG s_condQ c_true c_false aop ev_t ev_c updO_at updO_no upd_at t_normal t_ret t_exit b_normal b_ret b_exit a_some ac_v ac_agg ac_ptr ac_slc ac_ro ac_rop ac_fn new_next set_next argTm_zero argTm_succ argTm_nil ab_bool ab_uv beq_self_eq_true Option.some_beq_some Bool.not_not beq_iff_eq decide_true decide_false Bool.not_true Bool.not_false afld aload astore apack alen_str alen_ro alen_slc alen_nil new_get set_get ite_true ite_false Option.map_some Option.bind_some ibin isShift Nat.add_zero Nat.zero_add List.length_cons List.length_nil List.drop_zero List.drop_succ_cons List.take_succ_cons List.take_zero if_true if_false setL List.set_cons_zero List.set_cons_succ List.all_cons List.all_nil one_int one_bool one_str one_nil one_ptr one_slc one_ro one_rop one_fn Bool.and_self Bool.and_true true_and and_true and_self Bool.false_eq_true post_ret post_normal resAll resOne packR Option.some.injEq exists_eq_left' List.map_cons List.map_nil List.nil_append List.append_nil List.cons_append d_nil d_cons k_nil k_cons g_op g_same g_new avBlock forall_eq' List.getElem?_cons_succ List.getElem?_cons_zero List.getElem?_nil okind gOk bne false_imp_iff forall_const imp_self implies_true true_imp_iff i_callG

set_option maxRecDepth 100000 in
theorem node_ok (f : Int) (h : Bool) (a b : Tm) (ac bc : List AV) (ha : TmP a ac) (hb : TmP b bc) (H : AHeap) :
    SCall Try.prog 136 [aint f, abl h, .agg ac, .agg bc] H fun x H' => (∃ c, x = .agg c ∧ TmP (.mk f 0 h zeroS [] [a, b]) c) ∧ H' = H := by
  obtain ⟨ax, bx, hk1, v1, v2, v3, v4, v5, v6, v7, v8⟩ := ha.six
  obtain ⟨ay, by', hk2, w1, w2, w3, w4, w5, w6, w7, w8⟩ := hb.six
  subst hk1 hk2
  have hX : KsX [a, b] ([aint a.form, aint a.n, abl a.hid, .v (.string a.name), ax, bx] ++ ([aint b.form, aint b.n, abl b.hid, .v (.string b.name), ay, by'] ++ [])) := ⟨_, _, rfl, ha, _, _, rfl, hb, rfl⟩
  refine SCall.frz (R := fun x H' => Ext H H' ∧ ∃ B, H.next ≤ B ∧ x = .agg [aint f, aint 0, abl h, .v (.string zeroS), nils, .slc B 0 6 2 2 true] ∧ H'.get B = some (.cells ([aint a.form, aint a.n, abl a.hid, .v (.string a.name), ax, bx] ++ ([aint b.form, aint b.n, abl b.hid, .v (.string b.name), ay, by'] ++ []))))
    (G := fun x => ∃ c, x = .agg c ∧ TmP (.mk f 0 h zeroS [] [a, b]) c) (SCall.intro mixed cf136 ?_) ?_
  · have e1 : ¬ H.next = H.next + 1 := by omega
    have e2 : ¬ H.next + 1 = H.next := by omega
    have e3 : ¬ H.next = H.next + 1 + 1 := by omega
    have e4 : ¬ H.next + 1 + 1 = H.next := by omega
    have e5 : ¬ H.next + 1 = H.next + 1 + 1 := by omega
    have e6 : ¬ H.next + 1 + 1 = H.next + 1 := by omega
    simp -implicitDefEqProofs only [c136, go_sem, Nat.reduceEqDiff, Nat.reduceAdd, Nat.reduceLeDiff, ↓reduceIte, reduceCtorEq, Int.reduceBEq, Int.reduceBNe, Int.reduceLT, Int.reduceLE, Int.reduceGT, Int.reduceGE, Int.reduceNeg, Int.reduceAdd, Int.reduceSub, Nat.reduceMul, Nat.reduceLT, Int.reduceToNat, afill, v1, v2, v3, v4, w1, w2, w3, w4, e1, e2, e3, e4, e5, e6]
    exact ⟨(((((Ext.refl H).new _).new _).new _).new _).set (by omega) _, H.next + 1 + 1 + 1, by omega, rfl, by rw [if_neg (by omega), if_pos rfl]⟩
  · rintro _ _ x H' ⟨hE, B, h1, rfl, h2⟩ _
    have hf : FrzN H.next H' (.slc B 0 6 2 2 true) (.ro 2 2 true ([aint a.form, aint a.n, abl a.hid, .v (.string a.name), ax, bx] ++ ([aint b.form, aint b.n, abl b.hid, .v (.string b.name), ay, by'] ++ []))) := by
      refine .slc _ _ _ _ _ _ _ _ h2 h1 (by simp) fun i x y hx hy => ?_
      rw [Nat.zero_add] at hx
      rw [hx] at hy
      injection hy with hy
      subst hy
      exact .keep _ ((hX.old _ (List.mem_of_getElem? hx)).mono (Nat.zero_le _))
    exact ⟨hE, _, FrzN.six (.keep _ (.v _)) (.keep _ (.v _)) (.keep _ (.v _)) (.keep _ (.v _)) (.keep _ (.v _)) hf, _, rfl, tmp_mk sll_nil (SlK.of hX (.inr ⟨2, true, rfl, Nat.le_refl _⟩))⟩
end Go.Proofs.Ytooaiddfokbffaa.E

/- The closures that tele's bind makes (functions 91 and 135). Conditions: the argument is one cell. -/
set_option linter.unusedVariables false
set_option linter.unusedSimpArgs false
namespace Go.Proofs.Ytooaiddfokbffaa.E
open Go Go.Proofs
attribute [local go_sem] s_seq s_ops s_draw s_block s_skip s_ret s_exit i_nil i_cons i_run i_runG s_condQ c_true c_false aop ev_t ev_c updO_at updO_no upd_at t_normal t_ret t_exit b_normal b_ret b_exit a_some ac_v ac_agg ac_ptr ac_slc ac_ro ac_rop ac_fn new_next set_next argTm_zero argTm_succ argTm_nil ab_bool ab_uv beq_self_eq_true Option.some_beq_some Bool.not_not beq_iff_eq decide_true decide_false Bool.not_true Bool.not_false afld aload astore apack alen_str alen_ro alen_slc alen_nil new_get set_get ite_true ite_false Option.map_some Option.bind_some ibin isShift Nat.add_zero Nat.zero_add List.length_cons List.length_nil List.drop_zero List.drop_succ_cons List.take_succ_cons List.take_zero if_true if_false setL List.set_cons_zero List.set_cons_succ List.all_cons List.all_nil one_int one_bool one_str one_nil one_ptr one_slc one_ro one_rop one_fn Bool.and_self Bool.and_true true_and and_true and_self Bool.false_eq_true post_ret post_normal resAll resOne packR Option.some.injEq exists_eq_left' List.map_cons List.map_nil List.nil_append List.append_nil List.cons_append d_nil d_cons k_nil k_cons g_op g_same g_new avBlock forall_eq' List.getElem?_cons_succ List.getElem?_cons_zero List.getElem?_nil okind gOk bne false_imp_iff forall_const imp_self implies_true true_imp_iff i_callG

theorem hidF_ok (x : AV) (h1 : x.one = true) (h2 : x.acells = [x]) (H : AHeap) :
    SCall Try.prog 91 [x] H fun y H' => y = .fn (.func 137) [] [.ptr H.next 0] ∧ H' = H.new (.cells [x]) := by
  refine SCall.intro mixed cf91 ?_
  simp -implicitDefEqProofs only [c91, go_sem, Nat.reduceEqDiff, Nat.reduceAdd, Nat.reduceLeDiff, ↓reduceIte, reduceCtorEq, Int.reduceBEq, Int.reduceBNe, Int.reduceLT, Int.reduceLE, Int.reduceGT, Int.reduceGE, Int.reduceNeg, Int.reduceAdd, Int.reduceSub, Nat.reduceMul, Nat.reduceLT, Int.reduceToNat, h1, h2]
theorem inwards_ok (x : AV) (h1 : x.one = true) (h2 : x.acells = [x]) (H : AHeap) :
    SCall Try.prog 135 [x] H fun y H' => y = .fn (.func 175) [] [.ptr H.next 0] ∧ H' = H.new (.cells [x]) := by
  refine SCall.intro mixed cf135 ?_
  simp -implicitDefEqProofs only [c135, go_sem, Nat.reduceEqDiff, Nat.reduceAdd, Nat.reduceLeDiff, ↓reduceIte, reduceCtorEq, Int.reduceBEq, Int.reduceBNe, Int.reduceLT, Int.reduceLE, Int.reduceGT, Int.reduceGE, Int.reduceNeg, Int.reduceAdd, Int.reduceSub, Nat.reduceMul, Nat.reduceLT, Int.reduceToNat, h1, h2]
end Go.Proofs.Ytooaiddfokbffaa.E

/- What tele's bind makes, in plain: a telescope folded from its end. Conditions: none. -/
set_option linter.unusedVariables false
set_option linter.unusedSimpArgs false
namespace Go.Proofs.Ytooaiddfokbffaa.E
open Go Go.Proofs

def telT (f : Int) (hs : List Bool) : Nat → List Tm → Tm → Tm
  | _, [], body => body
  | i, k :: r, body => .mk f 0 (hidF hs i) zeroS [] [k, telT f hs (i + 1) r body]
theorem telT_drop (f : Int) (hs : List Bool) (body : Tm) {ks : List Tm} {i : Nat} (hi : i < ks.length) :
    telT f hs i (ks.drop i) body = .mk f 0 (hidF hs i) zeroS [] [ks[i], telT f hs (i + 1) (ks.drop (i + 1)) body] := by
  rw [List.drop_eq_getElem_cons hi]
  rfl
theorem telT_end (f : Int) (hs : List Bool) (body : Tm) (ks : List Tm) : telT f hs ks.length (ks.drop ks.length) body = body := by
  rw [List.drop_length]
  rfl
theorem piEx_tel : telT 3 [] 0 [set0, varTm 0] (varTm 1) = piEx := by
  simp [telT, piEx, hidF]
end Go.Proofs.Ytooaiddfokbffaa.E

/- The law TeleSpine, walked, where the example (alive) holds. Conditions: the example's contract is a premise of this text. -/
set_option linter.unusedVariables false
set_option linter.unusedSimpArgs false
namespace Go.Proofs.Ytooaiddfokbffaa.E
open Go Go.Proofs
attribute [local go_sem] s_seq s_ops s_draw s_block s_skip s_ret s_exit i_nil i_cons i_run i_runG s_condQ c_true c_false aop ev_t ev_c updO_at updO_no upd_at t_normal t_ret t_exit b_normal b_ret b_exit a_some ac_v ac_agg ac_ptr ac_slc ac_ro ac_rop ac_fn new_next set_next argTm_zero argTm_succ argTm_nil ab_bool ab_uv beq_self_eq_true Option.some_beq_some Bool.not_not beq_iff_eq decide_true decide_false Bool.not_true Bool.not_false afld aload astore apack alen_str alen_ro alen_slc alen_nil new_get set_get ite_true ite_false Option.map_some Option.bind_some ibin isShift Nat.add_zero Nat.zero_add List.length_cons List.length_nil List.drop_zero List.drop_succ_cons List.take_succ_cons List.take_zero if_true if_false setL List.set_cons_zero List.set_cons_succ List.all_cons List.all_nil one_int one_bool one_str one_nil one_ptr one_slc one_ro one_rop one_fn Bool.and_self Bool.and_true true_and and_true and_self Bool.false_eq_true post_ret post_normal resAll resOne packR Option.some.injEq exists_eq_left' List.map_cons List.map_nil List.nil_append List.append_nil List.cons_append d_nil d_cons k_nil k_cons g_op g_same g_new avBlock forall_eq' List.getElem?_cons_succ List.getElem?_cons_zero List.getElem?_nil okind gOk bne false_imp_iff forall_const imp_self implies_true true_imp_iff i_callG

theorem HidR.at {hs : List Bool} {x : AV} (h : HidR hs x) {i : Nat} (hil : i < hs.length) : ∃ cs, aix 1 (i : Int) x = some (.rop cs i) ∧ i + 1 ≤ cs.length ∧ (cs.drop i).take 1 = [abl hs[i]] := by
  rcases h with ⟨h0, _⟩ | ⟨lo, ex, cs, rfl, hlo, hcs⟩
  · omega
  refine ⟨cs, ?_, ?_, ?_⟩
  · simp only [aix]
    rw [if_pos (by omega)]
    simp
  · have := congrArg List.length hcs
    simp at this
    omega
  · have h1 : cs[i]? = some (abl hs[i]) := by
      have h2 : (cs.take hs.length)[i]? = some (abl hs[i]) := by rw [hcs]; simp [hil]
      rw [List.getElem?_take, if_pos hil] at h2
      exact h2
    have hlt2 := (List.getElem?_eq_some_iff.1 h1).1
    rw [List.drop_eq_getElem_cons hlt2, List.take_succ_cons, List.take_zero, (List.getElem?_eq_some_iff.1 h1).2]
theorem SlK.row {ks : List Tm} {x : AV} (h : SlK ks x) : ∃ cs, SlR ks.length x cs ∧ KsR ks cs ∧ ∀ z ∈ cs, Old 0 z := by
  obtain ⟨⟨cs, h1, h2⟩, h3⟩ := h
  rcases h1 with ⟨h0, rfl⟩ | ⟨lo, ex, rfl, hl⟩
  · have : ks = [] := List.length_eq_zero_iff.1 h0
    subst this
    exact ⟨[], .inl ⟨rfl, rfl⟩, trivial, fun z hz => by cases hz⟩
  · refine ⟨cs, .inr ⟨lo, ex, rfl, hl⟩, h2, ?_⟩
    cases h3 with | ro _ _ _ _ h => exact h

set_option maxRecDepth 100000 in
theorem law_spine_of (hal : ∀ H : AHeap, SCall Try.prog 28 [] H fun x H' => x = abl true ∧ H' = H) (t : Tm) (ht : Tm.All TmB t) (tc : List AV) (hT : TmR t tc) (ot : ∀ y ∈ tc, Old 0 y) (H : AHeap) :
    SCall Try.prog 5 [.agg tc] H fun x H' => x = abl true ∧ H' = H := by
  have hTP : TmP t tc := ⟨hT, ot⟩
  have hT' := hT
  obtain ⟨lx, kx, ls, cs, rfl, hl1, hl2, hk1, hk2⟩ := hT.six
  have p1 := hl1.one
  have p2 := hl1.cells
  have p3 := hk1.one
  have p4 := hk1.cells
  refine SCall.val (SCall.intro mixed cf5 ?_)
  simp -implicitDefEqProofs only [c5, go_sem, Nat.reduceEqDiff, Nat.reduceAdd, Nat.reduceLeDiff, ↓reduceIte, reduceCtorEq, Int.reduceBEq, Int.reduceBNe, Int.reduceLT, Int.reduceLE, Int.reduceGT, Int.reduceGE, Int.reduceNeg, Int.reduceAdd, Int.reduceSub, Nat.reduceMul, Nat.reduceLT, Int.reduceToNat, p1, p2, p3, p4]
  refine i_callA (fs := []) (cs := []) (fid := 28) ?_ ?_ (hal _) ?_
  · rfl
  · simp -implicitDefEqProofs only [go_sem, Nat.reduceEqDiff, Nat.reduceAdd, Nat.reduceLeDiff, ↓reduceIte, reduceCtorEq, Int.reduceBEq, Int.reduceBNe, Int.reduceLT, Int.reduceLE, Int.reduceGT, Int.reduceGE, Int.reduceNeg, Int.reduceAdd, Int.reduceSub, Nat.reduceMul, Nat.reduceLT, Int.reduceToNat]
  rintro x H3 ⟨rfl, rfl⟩
  simp -implicitDefEqProofs only [go_sem, Nat.reduceEqDiff, Nat.reduceAdd, Nat.reduceLeDiff, ↓reduceIte, reduceCtorEq, Int.reduceBEq, Int.reduceBNe, Int.reduceLT, Int.reduceLE, Int.reduceGT, Int.reduceGE, Int.reduceNeg, Int.reduceAdd, Int.reduceSub, Nat.reduceMul, Nat.reduceLT, Int.reduceToNat, p1, p2, p3, p4]
  refine i_callA (fs := []) (cs := []) ?_ ?_ (big_ok t ht _ hT' _) ?_
  · rfl
  · simp -implicitDefEqProofs only [go_sem, Nat.reduceEqDiff, Nat.reduceAdd, Nat.reduceLeDiff, ↓reduceIte, reduceCtorEq, Int.reduceBEq, Int.reduceBNe, Int.reduceLT, Int.reduceLE, Int.reduceGT, Int.reduceGE, Int.reduceNeg, Int.reduceAdd, Int.reduceSub, Nat.reduceMul, Nat.reduceLT, Int.reduceToNat]
  rintro x H3 ⟨rfl, rfl⟩
  cases h1 : bigF t with
  | true =>
    simp -implicitDefEqProofs only [go_sem, Nat.reduceEqDiff, Nat.reduceAdd, Nat.reduceLeDiff, ↓reduceIte, reduceCtorEq, Int.reduceBEq, Int.reduceBNe, Int.reduceLT, Int.reduceLE, Int.reduceGT, Int.reduceGE, Int.reduceNeg, Int.reduceAdd, Int.reduceSub, Nat.reduceMul, Nat.reduceLT, Int.reduceToNat, p1, p2, p3, p4]
    exact (Ext.refl H).new _
  | false =>
  simp -implicitDefEqProofs only [go_sem, Nat.reduceEqDiff, Nat.reduceAdd, Nat.reduceLeDiff, ↓reduceIte, reduceCtorEq, Int.reduceBEq, Int.reduceBNe, Int.reduceLT, Int.reduceLE, Int.reduceGT, Int.reduceGE, Int.reduceNeg, Int.reduceAdd, Int.reduceSub, Nat.reduceMul, Nat.reduceLT, Int.reduceToNat, p1, p2, p3, p4]
  refine i_callA (fs := []) (cs := []) ?_ ?_ (check2_ok canF t (tmb_fine2 ht) _ hT' _) ?_
  · rfl
  · simp -implicitDefEqProofs only [go_sem, Nat.reduceEqDiff, Nat.reduceAdd, Nat.reduceLeDiff, ↓reduceIte, reduceCtorEq, Int.reduceBEq, Int.reduceBNe, Int.reduceLT, Int.reduceLE, Int.reduceGT, Int.reduceGE, Int.reduceNeg, Int.reduceAdd, Int.reduceSub, Nat.reduceMul, Nat.reduceLT, Int.reduceToNat]
  rintro x H3 ⟨rfl, rfl⟩
  rw [check_same]
  by_cases hc : checkF canF t = 0
  case neg =>
    simp -implicitDefEqProofs only [go_sem, Nat.reduceEqDiff, Nat.reduceAdd, Nat.reduceLeDiff, ↓reduceIte, reduceCtorEq, Int.reduceBEq, Int.reduceBNe, Int.reduceLT, Int.reduceLE, Int.reduceGT, Int.reduceGE, Int.reduceNeg, Int.reduceAdd, Int.reduceSub, Nat.reduceMul, Nat.reduceLT, Int.reduceToNat, p1, p2, p3, p4, bne' hc]
    exact (Ext.refl H).new _
  rw [hc]
  have hap := form_ap canF t (check_form hc).2
  obtain ⟨hz1, hz2⟩ := check_sz hc
  have hkall : ∀ k ∈ (spT t).map (·.1), Tm.All TmB k := by
    intro k hk
    obtain ⟨x, hx, rfl⟩ := List.mem_map.1 hk
    exact spT_all t ht x hx
  have hkl : ((spT t).map (·.1)).length ≤ 20000 := by rw [List.length_map]; have := spT_len t; omega
  have hhl : ((spT t).map (·.2)).length ≤ 20000 := by rw [List.length_map]; have := spT_len t; omega
  generalize hks : (spT t).map (·.1) = ks at *
  generalize hhs : (spT t).map (·.2) = hs at *
  have hfb := hdT_all t ht
  have hkA : Tm.AllL TmB ks := by
    have key : ∀ l : List Tm, (∀ k ∈ l, Tm.All TmB k) → Tm.AllL TmB l := by
      intro l
      induction l with
      | nil => intro _; trivial
      | cons k r ih => intro h; exact ⟨h k (List.mem_cons_self ..), ih fun k hk => h k (List.mem_cons_of_mem _ hk)⟩
    exact key ks hkall
  simp -implicitDefEqProofs only [go_sem, Nat.reduceEqDiff, Nat.reduceAdd, Nat.reduceLeDiff, ↓reduceIte, reduceCtorEq, Int.reduceBEq, Int.reduceBNe, Int.reduceLT, Int.reduceLE, Int.reduceGT, Int.reduceGE, Int.reduceNeg, Int.reduceAdd, Int.reduceSub, Nat.reduceMul, Nat.reduceLT, Int.reduceToNat, p1, p2, p3, p4]
  generalize hG0 : (H.new (.cells [aint t.form, aint t.n, abl t.hid, .v (.string t.name), lx, kx])) = G0
  have hE : Ext H G0 := by rw [← hG0]; exact (Ext.refl H).new _
  have at1 : At G0 H.next (.cells [aint t.form, aint t.n, abl t.hid, .v (.string t.name), lx, kx]) := ⟨by rw [← hG0]; simp -implicitDefEqProofs only [go_sem, Nat.reduceEqDiff, Nat.reduceAdd, Nat.reduceLeDiff, ↓reduceIte, reduceCtorEq, Int.reduceBEq, Int.reduceBNe, Int.reduceLT, Int.reduceLE, Int.reduceGT, Int.reduceGE, Int.reduceNeg, Int.reduceAdd, Int.reduceSub, Nat.reduceMul, Nat.reduceLT, Int.reduceToNat], by rw [← hG0]; simp only [new_next]; omega⟩
  clear hG0
  refine i_callA (fs := []) (cs := []) (fid := 30) ?_ ?_ (spine_ok t ht hc _ hTP _) ?_
  · rfl
  · simp -implicitDefEqProofs only [go_sem, Nat.reduceEqDiff, Nat.reduceAdd, Nat.reduceLeDiff, ↓reduceIte, reduceCtorEq, Int.reduceBEq, Int.reduceBNe, Int.reduceLT, Int.reduceLE, Int.reduceGT, Int.reduceGE, Int.reduceNeg, Int.reduceAdd, Int.reduceSub, Nat.reduceMul, Nat.reduceLT, Int.reduceToNat]
  rw [hks, hhs]
  rintro r H3 ⟨⟨c, xa, ya, rfl, hca, hka, hha⟩, hHH⟩
  have hHH := hHH.symm
  subst hHH
  obtain ⟨axa, bxa, hx6, k1a, k2a, k3a, k4a, _⟩ := hca.six
  subst hx6
  obtain ⟨⟨csa, u1a, u2a⟩, uoa⟩ := id hka
  simp -implicitDefEqProofs only [go_sem, Nat.reduceEqDiff, Nat.reduceAdd, Nat.reduceLeDiff, ↓reduceIte, reduceCtorEq, Int.reduceBEq, Int.reduceBNe, Int.reduceLT, Int.reduceLE, Int.reduceGT, Int.reduceGE, Int.reduceNeg, Int.reduceAdd, Int.reduceSub, Nat.reduceMul, Nat.reduceLT, Int.reduceToNat, p1, p2, p3, p4, at1.1, Nat.ne_of_lt at1.2, k1a, k2a, k3a, k4a, u1a.one, u1a.cells, hha.one, hha.cells]
  have hX : Ext G0 ((G0.new (.cells z6)).set G0.next (.cells [aint (cleanT (hdT t)).form, aint (cleanT (hdT t)).n, abl (cleanT (hdT t)).hid, .v (.string (cleanT (hdT t)).name), axa, bxa])) := Ext.put1 _ _ _
  have at5 : At ((G0.new (.cells z6)).set G0.next (.cells [aint (cleanT (hdT t)).form, aint (cleanT (hdT t)).n, abl (cleanT (hdT t)).hid, .v (.string (cleanT (hdT t)).name), axa, bxa])) G0.next (.cells [aint (cleanT (hdT t)).form, aint (cleanT (hdT t)).n, abl (cleanT (hdT t)).hid, .v (.string (cleanT (hdT t)).name), axa, bxa]) := At.put _ _ _
  have at1 := at1.ext hX
  have hE := hE.trans hX
  clear hX
  generalize hb5 : G0.next = b5 at *
  generalize (G0.new (.cells z6)).set b5 (.cells [aint (cleanT (hdT t)).form, aint (cleanT (hdT t)).n, abl (cleanT (hdT t)).hid, .v (.string (cleanT (hdT t)).name), axa, bxa]) = G5 at *
  refine i_callA (fs := []) (cs := []) (fid := 31) ?_ ?_ (spine2_ok t hap hz1 _ hTP _) ?_
  · rfl
  · simp -implicitDefEqProofs only [go_sem, Nat.reduceEqDiff, Nat.reduceAdd, Nat.reduceLeDiff, ↓reduceIte, reduceCtorEq, Int.reduceBEq, Int.reduceBNe, Int.reduceLT, Int.reduceLE, Int.reduceGT, Int.reduceGE, Int.reduceNeg, Int.reduceAdd, Int.reduceSub, Nat.reduceMul, Nat.reduceLT, Int.reduceToNat]
  rw [hks, hhs]
  rintro r H3 ⟨⟨c, xb, yb, rfl, hcb, hkb, hhb⟩, hHH⟩
  have hHH := hHH.symm
  subst hHH
  obtain ⟨axb, bxb, hx6, k1b, k2b, k3b, k4b, _⟩ := hcb.six
  subst hx6
  obtain ⟨⟨csb, u1b, u2b⟩, uob⟩ := id hkb
  simp -implicitDefEqProofs only [go_sem, Nat.reduceEqDiff, Nat.reduceAdd, Nat.reduceLeDiff, ↓reduceIte, reduceCtorEq, Int.reduceBEq, Int.reduceBNe, Int.reduceLT, Int.reduceLE, Int.reduceGT, Int.reduceGE, Int.reduceNeg, Int.reduceAdd, Int.reduceSub, Nat.reduceMul, Nat.reduceLT, Int.reduceToNat, p1, p2, p3, p4, at1.1, Nat.ne_of_lt at1.2, at5.1, Nat.ne_of_lt at5.2, k1a, k2a, k3a, k4a, k1b, k2b, k3b, k4b, u1a.one, u1a.cells, hha.one, hha.cells, u1b.one, u1b.cells, hhb.one, hhb.cells]
  have hX : Ext G5 ((G5.new (.cells z6)).set G5.next (.cells [aint (hdT t).form, aint (hdT t).n, abl (hdT t).hid, .v (.string (hdT t).name), axb, bxb])) := Ext.put1 _ _ _
  have at8 : At ((G5.new (.cells z6)).set G5.next (.cells [aint (hdT t).form, aint (hdT t).n, abl (hdT t).hid, .v (.string (hdT t).name), axb, bxb])) G5.next (.cells [aint (hdT t).form, aint (hdT t).n, abl (hdT t).hid, .v (.string (hdT t).name), axb, bxb]) := At.put _ _ _
  have at1 := at1.ext hX
  have at5 := at5.ext hX
  have hE := hE.trans hX
  clear hX
  generalize hb8 : G5.next = b8 at *
  generalize (G5.new (.cells z6)).set b8 (.cells [aint (hdT t).form, aint (hdT t).n, abl (hdT t).hid, .v (.string (hdT t).name), axb, bxb]) = G8 at *
  have hbal : ∀ G, alen G .slice yb = some hs.length := fun G => hhb.alen G
  have haal : ∀ G, alen G .slice ya = some hs.length := fun G => hha.alen G
  simp -implicitDefEqProofs only [go_sem, Nat.reduceEqDiff, Nat.reduceAdd, Nat.reduceLeDiff, ↓reduceIte, reduceCtorEq, Int.reduceBEq, Int.reduceBNe, Int.reduceLT, Int.reduceLE, Int.reduceGT, Int.reduceGE, Int.reduceNeg, Int.reduceAdd, Int.reduceSub, Nat.reduceMul, Nat.reduceLT, Int.reduceToNat, p1, p2, p3, p4, at1.1, Nat.ne_of_lt at1.2, at5.1, Nat.ne_of_lt at5.2, at8.1, Nat.ne_of_lt at8.2, k1a, k2a, k3a, k4a, k1b, k2b, k3b, k4b, u1a.one, u1a.cells, hha.one, hha.cells, u1b.one, u1b.cells, hhb.one, hhb.cells, haal, hbal]
  refine swp_range hs.length (fun i st => st.tm 5 = .ptr b5 0 ∧ st.tm 6 = xa ∧ st.tm 7 = ya ∧ st.tm 8 = .ptr b8 0 ∧ st.tm 9 = xb ∧ st.tm 10 = yb ∧ st.tm 11 = aint i ∧ st.heap = G8) ?_ ?_ ?_
  · exact ⟨rfl, rfl, rfl, rfl, rfl, rfl, rfl, rfl⟩
  · rintro i ⟨tm, H2⟩ hi ⟨t5, t6, t7, t8, t9, t10, t11, hh⟩
    simp only at t5 t6 t7 t8 t9 t10 t11 hh
    subst hh
    have hltI : (i : Int) < (hs.length : Int) := by omega
    have w3 : IntKind.i64.wrap ((i : Int) + 1) = (i : Int) + 1 := i64_ok _ (by omega)
    obtain ⟨c1, i1, j1, d1⟩ := hha.at hi
    obtain ⟨c2, i2, j2, d2⟩ := hhb.at hi
    simp -implicitDefEqProofs only [go_sem, Nat.reduceEqDiff, Nat.reduceAdd, Nat.reduceLeDiff, ↓reduceIte, reduceCtorEq, Int.reduceBEq, Int.reduceBNe, Int.reduceLT, Int.reduceLE, Int.reduceGT, Int.reduceGE, Int.reduceNeg, Int.reduceAdd, Int.reduceSub, Nat.reduceMul, Nat.reduceLT, Int.reduceToNat, t5, t6, t7, t8, t9, t10, t11, hltI, haal, hbal, i1, j1, d1, i2, j2, d2, w3]
    simp
  · rintro ⟨tm, H2⟩ ⟨t5, t6, t7, t8, t9, t10, t11, hh⟩
    simp only at t5 t6 t7 t8 t9 t10 t11 hh
    subst hh
    obtain ⟨da, ra1, ra2, ra3⟩ := hka.row
    obtain ⟨db, rb1, rb2, rb3⟩ := hkb.row
    rw [cleanK_len] at ra1
    simp -implicitDefEqProofs only [go_sem, Nat.reduceEqDiff, Nat.reduceAdd, Nat.reduceLeDiff, ↓reduceIte, reduceCtorEq, Int.reduceBEq, Int.reduceBNe, Int.reduceLT, Int.reduceLE, Int.reduceGT, Int.reduceGE, Int.reduceNeg, Int.reduceAdd, Int.reduceSub, Nat.reduceMul, Nat.reduceLT, Int.reduceToNat, t5, t6, t7, t8, t9, t10, t11, Int.lt_irrefl, haal, hbal, at5.1, at8.1, k1a, k2a, k3a, k4a, k1b, k2b, k3b, k4b]
    refine i_callA (fs := []) (cs := []) (fid := 32) ?_ ?_ (clean_ok (hdT t) hfb _ hcb _) ?_
    · rfl
    · simp -implicitDefEqProofs only [go_sem, Nat.reduceEqDiff, Nat.reduceAdd, Nat.reduceLeDiff, ↓reduceIte, reduceCtorEq, Int.reduceBEq, Int.reduceBNe, Int.reduceLT, Int.reduceLE, Int.reduceGT, Int.reduceGE, Int.reduceNeg, Int.reduceAdd, Int.reduceSub, Nat.reduceMul, Nat.reduceLT, Int.reduceToNat]
    rintro z H3 ⟨⟨cw, rfl, hcw⟩, hHH⟩
    have hHH := hHH.symm
    subst hHH
    simp -implicitDefEqProofs only [go_sem, Nat.reduceEqDiff, Nat.reduceAdd, Nat.reduceLeDiff, ↓reduceIte, reduceCtorEq, Int.reduceBEq, Int.reduceBNe, Int.reduceLT, Int.reduceLE, Int.reduceGT, Int.reduceGE, Int.reduceNeg, Int.reduceAdd, Int.reduceSub, Nat.reduceMul, Nat.reduceLT, Int.reduceToNat, t5, t6, t7, t8, t9, t10, t11, at5.1, at8.1, k1a, k2a, k3a, k4a, k1b, k2b, k3b, k4b]
    refine i_callA (fs := []) (cs := []) (fid := 22) ?_ ?_ (exact_ok (cleanT (hdT t)) (tmb_clean _ hfb) _ _ hca.1 hcw.1 _) ?_
    · rfl
    · simp -implicitDefEqProofs only [go_sem, Nat.reduceEqDiff, Nat.reduceAdd, Nat.reduceLeDiff, ↓reduceIte, reduceCtorEq, Int.reduceBEq, Int.reduceBNe, Int.reduceLT, Int.reduceLE, Int.reduceGT, Int.reduceGE, Int.reduceNeg, Int.reduceAdd, Int.reduceSub, Nat.reduceMul, Nat.reduceLT, Int.reduceToNat]
    rintro z H3 ⟨rfl, hHH⟩
    have hHH := hHH.symm
    subst hHH
    simp -implicitDefEqProofs only [go_sem, Nat.reduceEqDiff, Nat.reduceAdd, Nat.reduceLeDiff, ↓reduceIte, reduceCtorEq, Int.reduceBEq, Int.reduceBNe, Int.reduceLT, Int.reduceLE, Int.reduceGT, Int.reduceGE, Int.reduceNeg, Int.reduceAdd, Int.reduceSub, Nat.reduceMul, Nat.reduceLT, Int.reduceToNat, t5, t6, t7, t8, t9, t10, t11, at5.1, at8.1, k1a, k2a, k3a, k4a, k1b, k2b, k3b, k4b, g_opG]
    refine i_callA (fs := []) (cs := []) (fid := 33) ?_ ?_ (sameL_ok ks hkA xa da ra1 ra2 xb db rb1 rb2 rb3 (by omega) _) ?_
    · rfl
    · simp -implicitDefEqProofs only [go_sem, Nat.reduceEqDiff, Nat.reduceAdd, Nat.reduceLeDiff, ↓reduceIte, reduceCtorEq, Int.reduceBEq, Int.reduceBNe, Int.reduceLT, Int.reduceLE, Int.reduceGT, Int.reduceGE, Int.reduceNeg, Int.reduceAdd, Int.reduceSub, Nat.reduceMul, Nat.reduceLT, Int.reduceToNat, t6, t9]
    rintro z H3 ⟨rfl, hHH⟩
    have hHH := hHH.symm
    subst hHH
    simp -implicitDefEqProofs only [go_sem, Nat.reduceEqDiff, Nat.reduceAdd, Nat.reduceLeDiff, ↓reduceIte, reduceCtorEq, Int.reduceBEq, Int.reduceBNe, Int.reduceLT, Int.reduceLE, Int.reduceGT, Int.reduceGE, Int.reduceNeg, Int.reduceAdd, Int.reduceSub, Nat.reduceMul, Nat.reduceLT, Int.reduceToNat]
    exact hE
end Go.Proofs.Ytooaiddfokbffaa.E

/- Rows of terms that bind and Apply are handed: read only, or of the caller's own. Conditions: none. -/
set_option linter.unusedVariables false
set_option linter.unusedSimpArgs false
namespace Go.Proofs.Ytooaiddfokbffaa.E
open Go Go.Proofs

theorem KsR.takeX : ∀ {ks : List Tm} {cs : List AV}, KsR ks cs → (∀ z ∈ cs, Old 0 z) → KsX ks (cs.take (ks.length * 6))
  | [], cs, _, _ => by simp [KsX]
  | k :: r, cs, h, ho => by
    simp only [KsR] at h
    have h6 : 6 ≤ cs.length := by have := h.1.len; rw [List.length_take] at this; omega
    refine ⟨cs.take 6, (cs.drop 6).take (r.length * 6), ?_, ⟨h.1, fun y hy => ho y (List.mem_of_mem_take hy)⟩, h.2.takeX fun y hy => ho y (List.mem_of_mem_drop hy)⟩
    rw [List.length_cons, show (r.length + 1) * 6 = 6 + r.length * 6 by omega, List.take_add]

/-- A row of terms, as bind reads it: its elements in each later heap, and what it is with one more behind it. -/
structure RowAt (ks : List Tm) (x : AV) (H : AHeap) : Prop where
  one : x.one = true
  cells : x.acells = [x]
  len : ∀ G, alen G .slice x = some ks.length
  elt : ∀ i, (hi : i < ks.length) → ∃ p, aix 6 (i : Int) x = some p ∧ ∀ G, Ext H G → ∃ c, aload G 6 p = some c ∧ TmP ks[i] c
  app : ks.length ≤ 1000 → ∃ y, aslice 6 x none (some ks.length) (some ks.length) = some y ∧ ∀ (G : AHeap) (b : Nat) (t : Tm) (c : List AV), Ext H G → TmP t c → G.get b = some (.cells c) →
    ∃ l, aappend G 6 88 y (.slc b 0 6 1 1 true) = some (.slc G.next 0 6 (ks.length + 1) (ks.length + 1) false, G.new (.cells l)) ∧ KsX (ks ++ [t]) l

theorem RowAt.ext {ks : List Tm} {x : AV} {H G : AHeap} (h : RowAt ks x H) (hE : Ext H G) : RowAt ks x G :=
  ⟨h.one, h.cells, h.len, fun i hi => let ⟨p, h1, h2⟩ := h.elt i hi; ⟨p, h1, fun G' hG => h2 G' (hE.trans hG)⟩,
    fun hn => let ⟨y, h1, h2⟩ := h.app hn; ⟨y, h1, fun G' b t c hG => h2 G' b t c (hE.trans hG)⟩⟩

theorem asrc_one {G : AHeap} {b : Nat} {t : Tm} {c : List AV} (hT : TmP t c) (hb : G.get b = some (.cells c)) : asrc G 6 (.slc b 0 6 1 1 true) = some (1, c) := by
  have hl := hT.1.len
  simp only [asrc, hb]
  rw [if_pos ⟨trivial, by omega⟩, List.drop_zero, Nat.one_mul, List.take_of_length_le (by omega)]

theorem RowAt.ro {ks : List Tm} {x : AV} (h : SlK ks x) (H : AHeap) : RowAt ks x H := by
  obtain ⟨cs, h1, h2, h3⟩ := h.row
  refine ⟨h1.one, h1.cells, fun G => h1.alen G, fun i hi => ?_, fun hn => ?_⟩
  · refine ⟨_, h1.aix 6 hi, fun G _ => ?_⟩
    obtain ⟨kc, q1, q2, q3⟩ := h2.load (List.getElem?_eq_getElem hi)
    refine ⟨kc, ?_, q1, fun y hy => h3 y ?_⟩
    · simp only [aload]
      rw [if_pos q2, q3]
    · rw [← q3] at hy
      exact List.mem_of_mem_drop (List.mem_of_mem_take hy)
  · rcases h1 with ⟨h0, rfl⟩ | ⟨lo, ex, rfl, hlo⟩
    · have hk : ks = [] := List.length_eq_zero_iff.1 h0
      subst hk
      refine ⟨nils, by simp [aslice], fun G b t c _ hT hb => ?_⟩
      obtain ⟨_, _, _, _, _, _, _, _, _, _, hone⟩ := hT.six
      refine ⟨c, ?_, by simpa using KsX.snoc (ks := []) (cs := []) rfl hT⟩
      simp only [aappend, asrc_one hT hb]
      rw [if_neg (by simp [hone]), if_neg (by omega), if_pos (by omega)]
      rfl
    · by_cases h0 : ks.length = 0
      · have hk : ks = [] := List.length_eq_zero_iff.1 h0
        subst hk
        refine ⟨.ro 0 0 true [], by simp [aslice, acut], fun G b t c _ hT hb => ?_⟩
        obtain ⟨_, _, _, _, _, _, _, _, _, _, hone⟩ := hT.six
        refine ⟨c, ?_, by simpa using KsX.snoc (ks := []) (cs := []) rfl hT⟩
        simp only [aappend, asrc_one hT hb]
        rw [if_neg (by simp [hone]), if_pos (by simp)]
        rfl
      · have hm : max ks.length lo = lo := by omega
        refine ⟨.ro ks.length ks.length true cs, by simp [aslice, acut, hm, hlo, show 0 < ks.length by omega], fun G b t c _ hT hb => ?_⟩
        obtain ⟨_, _, _, _, _, _, _, _, _, _, hone⟩ := hT.six
        have hx := h2.takeX h3
        have hl := hx.len
        rw [List.length_take] at hl
        refine ⟨cs.take (ks.length * 6) ++ c, ?_, hx.snoc hT⟩
        simp only [aappend, asrc_one hT hb]
        rw [if_neg (by simp [hone]), if_pos ⟨trivial, by omega, by omega, by omega, by omega⟩]

theorem RowAt.own {ks : List Tm} {l : List AV} {b : Nat} {H : AHeap} (hb : H.get b = some (.cells l)) (hlt : b < H.next) (hX : KsX ks l) (h0 : 0 < ks.length) : RowAt ks (.slc b 0 6 ks.length ks.length true) H := by
  have hl := hX.len
  refine ⟨rfl, rfl, fun G => rfl, fun i hi => ?_, fun hn => ?_⟩
  · refine ⟨.ptr b (i * 6), ?_, fun G hE => ?_⟩
    · simp only [aix]
      rw [if_pos (by omega)]
      simp
    · obtain ⟨c, q1, q2, q3⟩ := hX.at hi
      refine ⟨c, ?_, q3⟩
      have hg : G.get b = some (.cells l) := (hE.2 b hlt).trans hb
      simp only [aload, hg]
      rw [if_pos q2, q1]
  · refine ⟨.slc b 0 6 ks.length ks.length true, by simp [aslice, acut, h0], fun G b' t c hE hT hb' => ?_⟩
    obtain ⟨_, _, _, _, _, _, _, _, _, _, hone⟩ := hT.six
    have hg : G.get b = some (.cells l) := (hE.2 b hlt).trans hb
    refine ⟨l ++ c, ?_, hX.snoc hT⟩
    simp only [aappend, asrc_one hT hb', hg]
    rw [if_neg (by simp [hone]), if_pos ⟨trivial, by omega⟩, if_neg (by omega), if_neg (by omega), if_pos ⟨by omega, by omega⟩, if_pos trivial, List.drop_zero, List.take_of_length_le (by omega)]

end Go.Proofs.Ytooaiddfokbffaa.E

/- Ranges over functions, over abstract states: loops' records lie in the abstract heap. Conditions: none. -/
set_option linter.unusedVariables false
set_option linter.unusedSimpArgs false
namespace Go.Proofs.Ytooaiddfokbffaa.E
open Go

/-- What an activation has put off: marks of loops over functions. -/
inductive ADef where
  | mark

/-- The marks among what an activation has put off, the latest first; their blocks are no block of the embedding. -/
inductive DRel (e : Emb) (w : World) (lo : Nat) : Nat → List ADef → List Deferred → Prop
  | nil (B : Nat) : DRel e w lo B [] []
  | mark (B D : Nat) (ds : List ADef) (Ds : List Deferred) (h1 : lo ≤ D) (h2 : D < B) (h3 : w.heap[D]? = some (.deferred (some []))) (h4 : ¬ e.hits D) (h : DRel e w lo D ds Ds) :
      DRel e w lo B (.mark :: ds) ({ target := .collected D, args := #[] } :: Ds)

theorem DRel.evo {e e' : Emb} {w w' : World} {lo B : Nat} {ds : List ADef} {Ds : List Deferred} (hv : Evo0 e w e' w') (h : DRel e w lo B ds Ds) : DRel e' w' lo B ds Ds := by
  induction h with
  | nil B => exact .nil B
  | mark B D ds Ds h1 h2 h3 h4 h ih =>
    have hlt := (Array.getElem?_eq_some_iff.1 h3).1
    exact .mark B D ds Ds h1 h2 (by rw [hv.frame D hlt h4]; exact h3) (hv.nhits hlt h4) ih

theorem DRel.more {e : Emb} {w : World} {lo B B' : Nat} (hB : B ≤ B') {ds : List ADef} {Ds : List Deferred} (h : DRel e w lo B ds Ds) : DRel e w lo B' ds Ds := by
  cases h with
  | nil => exact .nil _
  | mark _ D ds Ds h1 h2 h3 h4 h => exact .mark _ D ds Ds h1 (by omega) h3 h4 h

/-! ### Blocks beside the embedding -/
section
variable {e : Emb} {w : World} {H : AHeap} {P : Program}

theorem Evo.beside (e : Emb) (w : World) (o : Obj) : Evo e w e (w.alloc o) :=
  ⟨⟨rfl, rfl, rfl, by simp, fun c hc _ => heap_alloc_old w o hc, Nat.le_refl _, fun _ _ h => h, fun _ h => .inr h, fun c cs t fr hc => ⟨cs, t, fr, by rw [heap_alloc_old w o (Array.getElem?_eq_some_iff.1 hc).1, hc], rfl⟩⟩, fun _ _ h => h⟩

theorem HRel.beside (hH : HRel e H w) (o : Obj) : HRel e H (w.alloc o) :=
  hH.of_same (Evo.beside e w o) fun c ⟨b, hb, _⟩ => heap_alloc_old w o (hH.lt b c hb)

/-- A block that is none of cells, and none of the embedding, becomes another. -/
theorem VRel.putBeside {D : Nat} {o : Obj} (hD : ∀ cs t fr, w.heap[D]? ≠ some (.cells cs t fr)) {x : AV} {u : Value} (h : VRel e w x u) : VRel e (w.putObj D o) x u := by
  have cell : ∀ {a : Addr} {u : Value}, w.cell? a = some u → (w.putObj D o).cell? a = some u := by
    intro a u hc
    have hne : a.block ≠ D := by
      intro hh
      unfold World.cell? at hc
      split at hc
      · rename_i c t fr hx
        exact hD c t fr (by rw [← hh]; exact hx)
      · cases hc
    unfold World.cell? at hc ⊢
    rw [World.putObj_heap_other hne]
    exact hc
  induction h with
  | v x h => exact .v x h
  | ptr b off c hc => exact .ptr b off c hc
  | slc b off es len lo ex c k hm hl hlo hcap cs t fr hw hs =>
    refine .slc b off es len lo ex c k hm hl hlo hcap cs t fr ?_ hs
    rw [World.putObj_heap_other (fun (hh : c = D) => hD cs t fr (by rw [← hh]; exact hw))]
    exact hw
  | ro len lo ex cells a k us hl hlo hcap hn hs hr ih => exact .ro len lo ex cells a k us hl hlo hcap hn (fun i u hu => ⟨cell (hs i u hu).1, (hs i u hu).2⟩) ih
  | rop cells off a us hn hs hr ih => exact .rop cells off a us hn (fun i u hu => ⟨cell (hs i u hu).1, (hs i u hu).2⟩) ih
  | fn f first captured fs cs hf hc h1 h2 ih1 ih2 => exact .fn f first captured fs cs hf hc ih1 ih2
  | agg cells cs hn h ih => exact .agg cells cs hn ih
  | tup vs cs hn h ih => exact .tup vs cs hn ih
  | ifc t x u h ih => exact .ifc t x u ih
  | mp b r hm => exact .mp b r hm
  | ch b r hm => exact .ch b r hm
  | yld b r hm => exact .yld b r hm

theorem HRel.putBeside (hH : HRel e H w) {D : Nat} {o : Obj} (hD : ∀ cs t fr, w.heap[D]? ≠ some (.cells cs t fr)) (hh : ¬ e.hits D) : HRel e H (w.putObj D o) := by
  have vr : ∀ {x : AV} {u : Value}, VRel e w x u → VRel e (w.putObj D o) x u := fun h => h.putBeside hD
  refine ⟨hH.next, hH.fresh, hH.inj, hH.dom, fun b ob c hb hc => ?_, hH.get, fun b c hc => by rw [World.putObj_size]; exact hH.lt b c hc⟩
  obtain ⟨h1, h2⟩ := hH.obj b ob c hb hc
  refine ⟨h1, ?_⟩
  have hne : c ≠ D := fun hcc => hh ⟨b, by rw [← hcc]; exact hc, h1⟩
  have hk : (w.putObj D o).heap[c]? = w.heap[c]? := World.putObj_heap_other hne
  cases ob with
  | cells l => obtain ⟨cs, t, k1, k2⟩ := h2; exact ⟨cs, t, hk.trans k1, fun i x hx => let ⟨u, h3, h4⟩ := k2 i x hx; ⟨u, h3, vr h4⟩⟩
  | map es clock => obtain ⟨ens, k1, k2, k3⟩ := h2; exact ⟨ens, hk.trans k1, k2, fun i k v n ent h4 h5 => let ⟨a, b, c⟩ := k3 i k v n ent h4 h5; ⟨vr a, vr b, c⟩⟩
  | iterS s p => exact hk.trans h2
  | chan cap buf closed s r => obtain ⟨us, k1, k2⟩ := h2; exact ⟨us, hk.trans k1, k2.1, fun i x u hx hu => vr (k2.2 i x u hx hu)⟩
  | loop L => obtain ⟨r, k1, k2, k3, k4, k5, k6⟩ := h2; exact ⟨r, hk.trans k1, k2, k3, k4, fun n => vr (k5 n), k6⟩
  | iterM m since seen last => obtain ⟨mc, k1, k2⟩ := h2; exact ⟨mc, k1, hk.trans k2⟩
  | iterN => exact hk.trans h2

/-- A block of the embedding that is none of cells becomes another. -/
theorem Evo.putObj {D : Nat} {o : Obj} (b : Nat) (hb : e.map b = some D) (hl : e.live b = true) (hD : ∀ cs t fr, w.heap[D]? ≠ some (.cells cs t fr)) : Evo e w e (w.putObj D o) :=
  ⟨⟨rfl, rfl, rfl, by simp, fun c hc hn => World.putObj_heap_other (fun (hh : c = D) => hn ⟨b, by rw [hh]; exact hb, hl⟩), Nat.le_refl _, fun _ _ h => h, fun _ h => .inr h,
    fun c cs t fr hc => ⟨cs, t, fr, by rw [World.putObj_heap_other (fun (hh : c = D) => hD cs t fr (by rw [← hh]; exact hc))]; exact hc, rfl⟩⟩, fun _ _ h => h⟩

/-- The record of a loop is turned. -/
theorem HRel.setLoop (hH : HRel e H w) {b c : Nat} {L L' : ALoop} (hb : H.get b = some (.loop L)) (hc : e.map b = some c) {r r' : Loop} (hr : w.heap[c]? = some (.loop r))
    (h : r'.state = L'.st ∧ r'.pending = L'.pend ∧ L'.n ≤ r'.tmps.size ∧ (∀ n, VRel e w (L'.tm n) (r'.tmps.getD n undef)) ∧ r'.params = L'.ps ∧ r'.assign = L'.ca ∧ r'.body = L'.cb) :
    HRel e (H.set b (.loop L')) (w.putObj c (.loop r')) ∧ Evo e w e (w.putObj c (.loop r')) := by
  have hD : ∀ cs t fr, w.heap[c]? ≠ some (.cells cs t fr) := fun cs t fr hh => by rw [hr] at hh; cases hh
  have hv := Evo.putObj (o := .loop r') b hc (hH.obj b _ c hb hc).1 hD
  refine ⟨hH.turn hb hc hv (fun c' hne => World.putObj_heap_other hne) ?_, hv⟩
  obtain ⟨h1, h2, h3, h4, h5⟩ := h
  exact ⟨r', World.putObj_heap_same (Array.getElem?_eq_some_iff.1 hr).1, h1, h2, h3, fun n => (h4 n).evo hv, h5⟩

end

/-! ### Code with ranges over functions -/
def thenX (K : ASt → List ADef → Prop) (Q : AExit → ASt → List ADef → Prop) : AExit → ASt → List ADef → Prop
  | .normal, st, ds => K st ds
  | e, st, ds => Q e st ds

def inBlockX (id : Nat) (Q : AExit → ASt → List ADef → Prop) : AExit → ASt → List ADef → Prop
  | .exit id', st, ds => if id' = id then Q .normal st ds else Q (.exit id') st ds
  | e, st, ds => Q e st ds

def loopX (body : (AExit → ASt → List ADef → Prop) → ASt → List ADef → Prop) (Q : AExit → ASt → List ADef → Prop) : Nat → ASt → List ADef → Prop
  | 0, _, _ => False
  | n + 1, st, ds => body (thenX (loopX body Q n) Q) st ds

/-- What is done behind a loop over a function: the jump that a round has left. -/
def afterX (Q : AExit → ASt → List ADef → Prop) (st : ASt) (ds : List ADef) : Option Code → Prop
  | none => Q .normal st ds
  | some .ret => Q .ret st ds
  | some (.exit id) => Q (.exit id) st ds
  | _ => False

/-- As swp, of code with ranges over functions; 'cx': the record of the loop in whose round the code stands. -/
def swpX (P : Program) (cx : Option Nat) : ACode → (AExit → ASt → List ADef → Prop) → ASt → List ADef → Prop
  | .seq a b, Q, st, ds => swpX P cx a (thenX (swpX P cx b Q) Q) st ds
  | .cond c x y, Q, st, ds => match c.ev st.tm with
    | .v (.bool t) => if t = true then swpX P cx x Q st ds else swpX P cx y Q st ds
    | _ => False
  | .block id b, Q, st, ds => swpX P cx b (inBlockX id Q) st ds
  | .loop b, Q, st, ds => ∃ n, loopX (swpX P cx b) Q n st ds
  | .rangeF g ps n ca cb _ _, Q, st, ds =>
      (∀ b0, cx = some b0 → ∃ L0, st.heap.get b0 = some (.loop L0)) ∧
      ∃ gf fs cs, g.ev st.tm = .fn (.func gf) fs cs ∧
        SCall P gf (fs ++ (.yld st.heap.next :: cs)) (st.heap.new (.loop ⟨.ready, none, n, st.tm, ps, ca, cb⟩)) fun _ H2 =>
          ∃ L2, H2.get st.heap.next = some (.loop L2) ∧ L2.st ≠ .busy ∧
            afterX Q ⟨st.tm, H2.set st.heap.next (.loop { L2 with st := .exhausted })⟩ (if cx.isNone then .mark :: ds else ds) L2.pend
  | .skip, Q, st, ds => Q .normal st ds
  | .ret, Q, st, ds => Q .ret st ds
  | .ops l, Q, st, ds => swpI P l (fun st => Q .normal st ds) st
  | .draw l, Q, st, ds => swpD P [] l (fun st => Q .normal st ds) st
  | .exit id, Q, st, ds => Q (.exit id) st ds

/-- What is said of the record of the loop in whose round code stands. -/
def CxRel (e : Emb) : Option Nat → Option Nat → Prop
  | none, none => True
  | some b, some l => e.map b = some l
  | _, _ => False

theorem CxRel.evo {e e' : Emb} {w w' : World} (hv : Evo0 e w e' w') {cx rd : Option Nat} (h : CxRel e cx rd) : CxRel e' cx rd := by
  cases cx <;> cases rd <;> simp only [CxRel] at h ⊢
  exact hv.old _ _ h

section
variable {rd : Option Nat} {n : Nat} {P : Program} {N : Nat} {plans : List (Nat × List (Nat × List Nat))} {cx : Option Nat}

/-- As StRel, with what the activation has put off. -/
structure StX (lo B : Nat) (cx rd : Option Nat) (N : Nat) (e : Emb) (st : ASt) (ds : List ADef) (a : Act) (w : World) : Prop where
  heap : HRel e st.heap w
  tm : TRel e w st.tm a
  size : N ≤ a.tmps.size
  defs : DRel e w lo B ds a.defers
  cx : CxRel e cx rd
  bd : B ≤ w.heap.size

theorem StX.rel {lo B : Nat} {rd : Option Nat} {e : Emb} {st : ASt} {ds : List ADef} {a : Act} {w : World} (h : StX lo B cx rd N e st ds a w) : StRel a.defers N e st a w := ⟨h.heap, h.tm, h.size, rfl⟩

theorem StX.next {lo B : Nat} {e e' : Emb} {st st' : ASt} {ds : List ADef} {a a' : Act} {w w' : World} (h : StX lo B cx rd N e st ds a w) (hs : StRel a.defers N e' st' a' w') (hv : Evo e w e' w') : StX lo B cx rd N e' st' ds a' w' :=
  ⟨hs.heap, hs.tm, hs.size, by rw [hs.defers]; exact h.defs.evo hv.toEvo0, h.cx.evo hv.toEvo0, Nat.le_trans h.bd hv.size⟩

theorem getLoop_of {e : Emb} {H : AHeap} {w : World} (hH : HRel e H w) {b c : Nat} {L : ALoop} (hb : H.get b = some (.loop L)) (hc : e.map b = some c) :
    e.live b = true ∧ ∃ r : Loop, w.heap[c]? = some (.loop r) ∧ r.state = L.st ∧ r.pending = L.pend ∧ L.n ≤ r.tmps.size ∧ (∀ n, VRel e w (L.tm n) (r.tmps.getD n undef)) ∧ r.params = L.ps ∧ r.assign = L.ca ∧ r.body = L.cb := hH.obj b _ c hb hc

theorem after_sound {lo B : Nat} {e0 e : Emb} {w0 w : World} {Q : AExit → ASt → List ADef → Prop} {QQ : Exit → Act → World → Prop} {F : Fence} {st : ASt} {ds : List ADef} {a : Act} {o : Option Code} (h : afterX Q st ds o) (hS : StX lo B cx rd N e st ds a w) (hv : Evo e0 w0 e w)
    (hQ : ∀ x st' ds' a' w' e' B', Q x st' ds' → StX lo B' cx rd N e' st' ds' a' w' → Evo e0 w0 e' w' → QQ (exitOf x) a' w') :
    (o = none → QQ .normal a w) ∧ ∀ c, o = some c → c.wpIn F n P QQ a w := by
  cases o with
  | none => exact ⟨fun _ => hQ .normal _ _ _ _ _ _ h hS hv, fun c hc => by cases hc⟩
  | some c =>
    refine ⟨fun hc => (by cases hc), fun c' hc => ?_⟩
    cases hc
    cases c with
    | ret => exact wpIn_ret (hQ .ret _ _ _ _ _ _ h hS hv)
    | exit id => exact wpIn_exit (hQ (.exit id) _ _ _ _ _ _ h hS hv)
    | _ => exact h.elim

theorem run_enterLoop_in {w : World} {l₀ : Nat} {r₀ : Loop} (h : w.heap[l₀]? = some (.loop r₀)) (fn : FuncId) (tmps : Array Value) (ps : Array Tmp) (assign body : Code) :
    (Instr.enterLoop fn tmps ps assign body (some l₀)).run P w =
      .ok (w.heap.size, []) (w.alloc (.loop { state := .ready, pending := none, fn, tmps, params := ps, assign, body, defers := r₀.defers })) := by
  unfold Instr.enterLoop
  simp only [Sem.run_bind, run_getLoop h, run_newObj_alloc, Result.andThen, Sem.run_pure]

/-- A record is laid. -/
theorem HRel.newLoop {e : Emb} {H : AHeap} {w : World} (hH : HRel e H w) (L : ALoop) (r : Loop) (h : r.state = L.st ∧ r.pending = L.pend ∧ L.n ≤ r.tmps.size ∧ (∀ n, VRel e w (L.tm n) (r.tmps.getD n undef)) ∧ r.params = L.ps ∧ r.assign = L.ca ∧ r.body = L.cb) :
    HRel (e.push w.heap.size) (H.new (.loop L)) (w.alloc (.loop r)) ∧ Evo e w (e.push w.heap.size) (w.alloc (.loop r)) := by
  have hv := Evo.alloc hH (.loop r)
  obtain ⟨h1, h2, h3, h4, h5⟩ := h
  exact ⟨hH.alloc _ _ ⟨r, heap_alloc_new w _, h1, h2, h3, fun n => (h4 n).evo hv, h5⟩, hv⟩

theorem swpX_sound (hm : P.follows .mixedOrders = true) {lo : Nat} : ∀ (c : Code) (ac : ACode), compCode P N plans c = some ac → ∀ (B : Nat) (e : Emb) (w : World) (st : ASt) (ds : List ADef) (a : Act), StX lo B cx rd N e st ds a w → lo ≤ w.heap.size →
    ∀ (Q : AExit → ASt → List ADef → Prop), swpX P cx ac Q st ds → ∀ (QQ : Exit → Act → World → Prop), (∀ x st' ds' a' w' e' B', Q x st' ds' → StX lo B' cx rd N e' st' ds' a' w' → Evo e w e' w' → QQ (exitOf x) a' w') → c.wpIn (Rr rd) n P QQ a w := by
  intro c
  induction c with
  | skip =>
    intro ac hc B e w st ds a hS hlo Q h QQ hQ
    simp only [compCode, Option.some.injEq] at hc
    subst hc
    exact wpIn_skip (hQ .normal _ _ _ _ _ _ h hS (Evo.refl e w))
  | label l =>
    intro ac hc B e w st ds a hS hlo Q h QQ hQ
    simp only [compCode, Option.some.injEq] at hc
    subst hc
    exact wpIn_label (hQ .normal _ _ _ _ _ _ h hS (Evo.refl e w))
  | ret =>
    intro ac hc B e w st ds a hS hlo Q h QQ hQ
    simp only [compCode, Option.some.injEq] at hc
    subst hc
    exact wpIn_ret (hQ .ret _ _ _ _ _ _ h hS (Evo.refl e w))
  | exit id =>
    intro ac hc B e w st ds a hS hlo Q h QQ hQ
    simp only [compCode, Option.some.injEq] at hc
    subst hc
    exact wpIn_exit (hQ (.exit id) _ _ _ _ _ _ h hS (Evo.refl e w))
  | region id ops draw =>
    intro ac hc B e w st ds a hS hlo Q h QQ hQ
    simp only [compCode] at hc
    split at hc
    · rename_i hd
      subst hd
      split at hc
      · rename_i L hL
        split at hc
        · rename_i hok
          injection hc with hc
          subst hc
          exact draw_sound hm (planOk_spec hL hok) hS.rel h fun st' a' w' e' k hs hv => hQ .normal _ _ _ _ _ _ k (hS.next hs hv) hv
        · cases hc
      · cases hc
    · rename_i hd
      have : draw = false := by simpa using hd
      subst this
      simp only [Option.map_eq_some_iff] at hc
      obtain ⟨is, his, rfl⟩ := hc
      exact wpIn_region_list (list_sound ops.toList is his e w st a hS.rel _ h QQ fun st' a' w' e' k hs hv => hQ .normal _ _ _ _ _ _ k (hS.next hs hv) hv)
  | seq x y ihx ihy =>
    intro ac hc B e w st ds a hS hlo Q h QQ hQ
    simp only [compCode] at hc
    split at hc
    · rename_i ax ay hx hy
      injection hc with hc
      subst hc
      refine wpIn_seq (ihx ax hx B e w st ds a hS hlo _ h _ fun q st' ds' a' w' e' B' k hs hv => ?_)
      cases q with
      | normal => exact ihy ay hy B' e' w' st' ds' a' hs (Nat.le_trans hlo hv.size) Q k QQ fun q2 st2 ds2 a2 w2 e2 B2 k2 hs2 hv2 => hQ q2 st2 ds2 a2 w2 e2 B2 k2 hs2 (hv.trans hv2)
      | ret => exact hQ .ret _ _ _ _ _ _ k hs hv
      | exit id => exact hQ (.exit id) _ _ _ _ _ _ k hs hv
    · cases hc
  | cond c x y ihx ihy =>
    intro ac hc B e w st ds a hS hlo Q h QQ hQ
    simp only [compCode] at hc
    split at hc
    · rename_i z ax ay hz hx hy
      injection hc with hc
      subst hc
      simp only [swpX] at h
      split at h
      · rename_i t ht
        have hv := carg_rel hS.tm hz
        rw [ht] at hv
        generalize hu : a.eval c = u at hv
        cases hv
        cases t with
        | true => exact wpIn_cond_true hu (ihx ax hx B e w st ds a hS hlo Q (by simpa using h) QQ hQ)
        | false => exact wpIn_cond_false hu (ihy ay hy B e w st ds a hS hlo Q (by simpa using h) QQ hQ)
      · exact h.elim
    · cases hc
  | block id b ih =>
    intro ac hc B e w st ds a hS hlo Q h QQ hQ
    simp only [compCode, Option.map_eq_some_iff] at hc
    obtain ⟨ab, hb, rfl⟩ := hc
    refine wpIn_block (ih ab hb B e w st ds a hS hlo _ h _ fun q st' ds' a' w' e' B' k hs hv => ?_)
    cases q with
    | normal => exact hQ .normal _ _ _ _ _ _ k hs hv
    | ret => exact hQ .ret _ _ _ _ _ _ k hs hv
    | exit id' =>
      simp only [inBlockX] at k
      simp only [exitOf, Exit.inBlock]
      split at k
      · rename_i hid
        rw [if_pos hid]
        exact hQ .normal _ _ _ _ _ _ k hs hv
      · rename_i hid
        rw [if_neg hid]
        exact hQ (.exit id') _ _ _ _ _ _ k hs hv
  | loop b ih =>
    intro ac hc B e w st ds a hS hlo Q h QQ hQ
    simp only [compCode, Option.map_eq_some_iff] at hc
    obtain ⟨ab, hb, rfl⟩ := hc
    obtain ⟨m, hn⟩ := h
    refine wpIn_loop_rounds m ?_
    induction m generalizing B e w st ds a with
    | zero => exact hn.elim
    | succ m ihn =>
      refine ih ab hb B e w st ds a hS hlo _ hn _ fun q st' ds' a' w' e' B' k hs hv => ?_
      cases q with
      | normal => exact ihn B' e' w' st' ds' a' hs (Nat.le_trans hlo hv.size) (fun q2 st2 ds2 a2 w2 e2 B2 k2 hs2 hv2 => hQ q2 st2 ds2 a2 w2 e2 B2 k2 hs2 (hv.trans hv2)) k
      | ret => exact hQ .ret _ _ _ _ _ _ k hs hv
      | exit id => exact hQ (.exit id) _ _ _ _ _ _ k hs hv
  | scope b ih =>
    intro ac hc B e w st ds a hS hlo Q h QQ hQ
    simp only [compCode] at hc
    refine wpIn_scope_straight (ih ac hc B e w st ds a hS hlo Q h _ fun q st' ds' a' w' e' B' k hs hv => ?_)
    have := hQ q st' ds' a' w' e' B' k hs hv
    cases q <;> exact this
  | rangeFunc g ps x y ihx ihy =>
    intro ac hc B e w st ds a hS hlo Q h QQ hQ
    simp only [compCode] at hc
    split at hc
    case h_2 => cases hc
    rename_i g' ax ay hg hx hy
    injection hc with hc
    subst hc
    obtain ⟨hcx, gf, fs, cs, hgv, ⟨fnc, q1, q2, q3⟩, hcall⟩ := h
    refine wpIn_rangeFunc fun fn hfn => ?_
    have hvg := carg_rel hS.tm hg
    rw [hgv] at hvg
    generalize hug : a.eval g = ug at hvg
    cases hvg with
    | fn _ _ _ ufs ucs hn1 hn2 hr1 hr2 =>
    -- the worlds behind the laying of the record
    have key : ∀ (w1 : World) (l : Nat) (mark : List Deferred) (r : Loop) (B1 : Nat), (Instr.enterLoop fn a.tmps ps x y (Rr rd).round).run P w = .ok (l, mark) (w1.alloc (.loop r)) → l = w1.heap.size →
        Evo e w e w1 → HRel e st.heap w1 → (r.state = .ready ∧ r.pending = none ∧ r.tmps = a.tmps ∧ r.params = ps ∧ r.assign = x ∧ r.body = y) →
        DRel e w1 lo B1 (if cx.isNone then .mark :: ds else ds) (mark ++ a.defers) → B1 ≤ w1.heap.size →
        ∃ (l : Nat) (mark : List Deferred) (w₁ : World) (d : Deferred) (w₁' : World) (f : FuncId) (args : Array Value) (w₂ : World),
          (Instr.enterLoop fn a.tmps ps x y (Rr rd).round).run P w = .ok (l, mark) w₁ ∧ (resolve a.eval (rangeCall g l) 0).run P w₁ = .ok d w₁' ∧
          (∀ f', Target.leads P w₁' d.target d.args = some f' → (Rr rd).fn f') ∧ (invoke d.target d.args).run P w₁' = .ok (.enter f args) w₂ ∧
          ((Rr rd).depth.isSome = true → 1 ≤ n) ∧ CallsIn (Rr rd) (n - 1) P f args w₂ (rangePost (Rr rd) n P l QQ { a with defers := mark ++ a.defers }) := by
      intro w1 l mark r B1 he hl hv1 hH1 hr hD1 hB1
      subst hl
      obtain ⟨hr1', hr2', hr3', hr4', hr5', hr6'⟩ := hr
      have hT1 : ∀ n, VRel e w1 (st.tm n) (r.tmps.getD n undef) := fun n => by rw [hr3']; exact (hS.tm n).evo hv1
      obtain ⟨hH2, hv2⟩ := hH1.newLoop ⟨.ready, none, N, st.tm, ps, x, y⟩ r ⟨hr1', hr2', by rw [hr3']; exact hS.size, hT1, hr4', hr5', hr6'⟩
      have hv12 := hv1.trans hv2
      have hln : e.next = st.heap.next := hS.heap.next
      refine ⟨w1.heap.size, mark, w1.alloc (.loop r), { target := .fn (.func gf) ucs, args := ufs ++ #[.func (.yield w1.heap.size) #[] #[]] }, w1.alloc (.loop r), gf, (ufs ++ #[.func (.yield w1.heap.size) #[] #[]]) ++ ucs, w1.alloc (.loop r), he, ?_, fun f' _ => trivial, ?_, fun hd => (by simp [Fence.wide] at hd), ?_⟩
      · simp only [resolve, hug]
        simp [go_sem, Act.eval]
      · simp only [invoke]
        exact runs_enter q1 q2 q3 _
      · refine (show CallsIn Fence.wide (n - 1) P gf _ _ _ from callsIn_wide.2 ?_)
        have LF : LRel (e.push w1.heap.size) (w1.alloc (.loop r)) fs ufs.toList := ⟨by simpa using hn1, fun i x u r1 r2 => (hr1 i x u r1 (by simpa using r2)).evo hv12⟩
        have LC : LRel (e.push w1.heap.size) (w1.alloc (.loop r)) cs ucs.toList := ⟨by simpa using hn2, fun i x u r1 r2 => (hr2 i x u r1 (by simpa using r2)).evo hv12⟩
        have hy0 : VRel (e.push w1.heap.size) (w1.alloc (.loop r)) (.yld st.heap.next) (.func (.yield w1.heap.size) #[] #[]) := .yld _ _ (by rw [push_map, if_pos hln.symm])
        have hC := hcall _ _ _ hH2 (LF.append (LRel.cons hy0 LC))
        have hargs : (ufs.toList ++ (Value.func (.yield w1.heap.size) #[] #[] :: ucs.toList)).toArray = ufs ++ #[Value.func (.yield w1.heap.size) #[] #[]] ++ ucs := by apply Array.ext'; simp
        rw [hargs] at hC
        refine Calls.mono hC fun en w3 hp => ?_
        obtain ⟨u, xv, H3, e3, rfl, ⟨L2, k1, k2, k3⟩, h3, _, hv3⟩ := hp
        have hm3 : e3.map st.heap.next = some w1.heap.size := hv3.old _ _ (by rw [push_map, if_pos hln.symm])
        obtain ⟨hlive, r2, m1, m2, m3, m4, m5, m6, m7, m8⟩ := getLoop_of h3 k1 hm3
        obtain ⟨hH4, hv4⟩ := h3.setLoop (L' := { L2 with st := .exhausted }) k1 hm3 m1 (r' := { r2 with state := .exhausted }) ⟨rfl, m3, m4, m5, m6, m7, m8⟩
        refine ⟨L2.pend, _, (by rw [← m3]; exact run_endLoop m1 (by rw [m2]; exact k2)), ?_⟩
        have hvv := (hv12.trans hv3).trans hv4
        have hvD : Evo e w1 e3 _ := (hv2.trans hv3).trans hv4
        have ha := after_sound (F := Rr rd) (n := n) (P := P) (a := { a with defers := mark ++ a.defers }) k3 (B := B1) ⟨hH4, fun n => (hS.tm n).evo hvv, hS.size, hD1.evo hvD.toEvo0, hS.cx.evo hvv.toEvo0, Nat.le_trans hB1 hvD.size⟩ hvv hQ
        split
        · rename_i hp; exact ha.1 hp
        · rename_i c hp; exact ha.2 c hp
    cases hcx0 : cx with
    | none =>
      have hrd : rd = none := by
        have := hS.cx
        rw [hcx0] at this
        cases rd with
        | none => rfl
        | some l => exact this.elim
      subst hrd
      have hnh : ¬ e.hits w.heap.size := fun ⟨b, hb, _⟩ => absurd (hS.heap.lt b _ hb) (Nat.lt_irrefl _)
      refine key (w.alloc (.deferred (some []))) _ _ _ (w.heap.size + 1) (run_enterLoop_outer fn a.tmps ps x y) (by simp) (Evo.beside e w _) (hS.heap.beside _) ⟨rfl, rfl, rfl, rfl, rfl, rfl⟩ ?_ (by simp)
      rw [hcx0]
      exact .mark _ _ _ _ hlo (Nat.lt_succ_self _) (heap_alloc_new w _) hnh ((hS.defs.evo (Evo.beside e w _).toEvo0).more hS.bd)
    | some b0 =>
      obtain ⟨L0, hL0⟩ := hcx b0 hcx0
      have hc0 := hS.cx
      rw [hcx0] at hc0
      cases hrd : rd with
      | none => rw [hrd] at hc0; exact hc0.elim
      | some l =>
        rw [hrd] at hc0
        obtain ⟨_, r0, m1, _⟩ := getLoop_of hS.heap hL0 hc0
        subst hrd
        refine key w _ _ _ B (run_enterLoop_in m1 fn a.tmps ps x y) rfl (Evo.refl e w) hS.heap ⟨rfl, rfl, rfl, rfl, rfl, rfl⟩ ?_ hS.bd
        rw [hcx0]
        exact hS.defs
  | _ =>
    intro ac hc
    simp [compCode] at hc

end
end Go.Proofs.Ytooaiddfokbffaa.E

/- Functions with ranges over functions, and the rounds of these. Conditions: none. -/
set_option linter.unusedVariables false
set_option linter.unusedSimpArgs false
namespace Go.Proofs.Ytooaiddfokbffaa.E
open Go

def postX (rs : List ARes) (R : AV → AHeap → Prop) : AExit → ASt → List ADef → Prop
  | .exit _, _, _ => False
  | _, st, _ => ∃ vs, resAll st rs = some vs ∧ R (packR vs) st.heap

section
variable {e : Emb} {w : World} {H : AHeap} {P : Program}

theorem DRel.putBeside {lo B D : Nat} {o : Obj} {ds : List ADef} {Ds : List Deferred} (h : DRel e w lo B ds Ds) (hB : B ≤ D) : DRel e (w.putObj D o) lo B ds Ds := by
  induction h with
  | nil => exact .nil _
  | mark B D' ds Ds h1 h2 h3 h4 h ih => exact .mark B D' ds Ds h1 h2 (by rw [World.putObj_heap_other (by omega)]; exact h3) h4 (ih (by omega))

theorem Evo.putNew {e0 : Emb} {w0 : World} (hv : Evo e0 w0 e w) {D : Nat} (hD : w0.heap.size ≤ D) (o : Obj) (hn : ∀ cs t fr, w.heap[D]? ≠ some (.cells cs t fr)) : Evo e0 w0 e (w.putObj D o) :=
  ⟨⟨hv.os, hv.output, hv.tape, by simpa using hv.size, fun c hc hh => by rw [World.putObj_heap_other (by omega)]; exact hv.frame c hc hh, hv.next, hv.old, hv.hits,
    fun c cs t fr hc => by
      obtain ⟨cs', t', fr', k1, k2⟩ := hv.sizes c cs t fr hc
      have hlt := (Array.getElem?_eq_some_iff.1 hc).1
      exact ⟨cs', t', fr', by rw [World.putObj_heap_other (by omega)]; exact k1, k2⟩⟩, hv.un⟩

theorem leave_marks {F : Fence} {n : Nat} {fn : Func} {tmps : Array Value} {R : Ending → World → Prop} {e0 : Emb} {w0 : World} {lo : Nat} (hlo : w0.heap.size ≤ lo) :
    ∀ (ds : List ADef) (Ds : List Deferred) (B : Nat) (w : World), DRel e w lo B ds Ds → HRel e H w → Evo e0 w0 e w → (∀ w', HRel e H w' → Evo e0 w0 e w' → (∀ x u, VRel e w x u → VRel e w' x u) → ∃ v, (results fn tmps).run P w' = .ok v w' ∧ R (.returned v) w') →
      LeavesInM F n P fn tmps R Ds .returning w := by
  intro ds
  induction ds with
  | nil =>
    intro Ds B w hD hH hv hfin
    cases hD
    exact hfin w hH hv fun _ _ h => h
  | cons d ds ih =>
    intro Ds B w hD hH hv hfin
    cases hD with
    | mark _ D _ Ds' h1 h2 h3 h4 h =>
    have hn : ∀ cs t fr, w.heap[D]? ≠ some (.cells cs t fr) := fun cs t fr hh => by rw [h3] at hh; cases hh
    refine ⟨by simp, .inl ⟨D, _, rfl, run_takeDeferred h3, ?_⟩⟩
    exact ih Ds' D _ (h.putBeside (Nat.le_refl _)) (hH.putBeside hn h4) (hv.putNew (Nat.le_trans hlo h1) _ hn) fun w' k1 k2 k3 => hfin w' k1 k2 fun x u hx => k3 x u (hx.putBeside hn)

theorem results_rel {rv : Array ResultVar} {fn : Func} (hrv : fn.results = rv) {rs : List ARes} (hrs : compRes P rv.toList = some rs) {Ds : List Deferred} {N : Nat} {st : ASt} {a : Act} (hS : StRel Ds N e st a w) {vs : List AV} (h1 : resAll st rs = some vs) :
    ∃ v, (results fn a.tmps).run P w = .ok v w ∧ VRel e w (packR vs) v := by
  subst hrv
  obtain ⟨us', k1, k2⟩ := run_resAll hS _ _ hrs vs h1
  have hmap : (fn.results.mapM (resSem a.tmps)).run P w = .ok us'.toArray w := by
    rw [Array.mapM_eq_mapM_toList]
    simp only [Sem.run_map]
    erw [k1]
    rfl
  have hres : (results fn a.tmps).run P w = .ok (if h : us'.toArray.size = 1 then us'.toArray[0] else .tuple us'.toArray) w := by
    unfold results
    simp only [Sem.run_bind]
    erw [hmap]
    rfl
  refine ⟨_, hres, ?_⟩
  match vs, us', k2 with
  | [x], [u], k2 => exact k2.head
  | [], [], k2 => exact .tup _ _ (by simp) (fun i x u h => by simp at h)
  | x :: y :: xs, u :: v :: us, k2 =>
    rw [dif_neg (by simp)]
    exact .tup _ _ (by simpa using k2.1) (fun i x u h1 h2 => k2.2 i x u h1 (by simpa using h2))
  | [x], [], k2 => have := k2.1; simp at this
  | [x], u :: v :: us, k2 => have := k2.1; simp at this
  | [], u :: us, k2 => have := k2.1; simp at this
  | x :: y :: xs, [], k2 => have := k2.1; simp at this
  | x :: y :: xs, [u], k2 => have := k2.1; simp at this

theorem SCall.introX (hm : P.follows .mixedOrders = true) {f : FuncId} {plans : List (Nat × List (Nat × List Nat))} {F : AFn} (hc : compFn P f plans = some F) {args : List AV} {H : AHeap} {R : AV → AHeap → Prop}
    (h : swpX P none F.code (postX F.res R) ⟨argTm args, H⟩ []) : SCall P f args H R := by
  unfold compFn at hc
  split at hc
  case h_2 => cases hc
  rename_i fn hf
  split at hc
  case h_2 => cases hc
  rename_i c hb
  split at hc
  case isTrue => cases hc
  rename_i hn
  split at hc
  case h_2 => cases hc
  rename_i ac rs hac hrs
  injection hc with hc
  subst hc
  refine ⟨⟨fn, hf, by simpa using hn, by rw [hb]; rfl⟩, fun e w us hH hL => callsIn_wide.1 (callsIn_of_wp_marks (F := Fence.wide) (n := 0) hf hb trivial ?_)⟩
  have hS : StX w.heap.size w.heap.size none none fn.ntmps e ⟨argTm args, H⟩ [] ⟨us.toArray ++ Array.replicate (fn.ntmps - us.toArray.size) undef, []⟩ w := ⟨hH, argTm_rel hL _, by simp; omega, .nil _, trivial, Nat.le_refl _⟩
  refine swpX_sound (rd := none) hm c ac hac _ e w _ _ _ hS (Nat.le_refl _) _ h _ fun x st' ds' a' w' e' B' k hs hv => ?_
  have fin : (∃ vs, resAll st' rs = some vs ∧ R (packR vs) st'.heap) → LeavesInM Fence.wide 0 P fn a'.tmps (CPost e w R) a'.defers .returning w' := by
    rintro ⟨vs, h1, h2⟩
    refine leave_marks (Nat.le_refl _) ds' _ B' w' hs.defs hs.heap hv fun w2 k1 k2 k3 => ?_
    obtain ⟨v, h3, h4⟩ := results_rel (P := P) (e := e') (w := w2) rfl hrs (Ds := a'.defers) (N := fn.ntmps) (st := st') (a := a') ⟨k1, fun n => k3 _ _ (hs.tm n), hs.size, rfl⟩ h1
    exact ⟨v, h3, v, _, _, e', rfl, h2, k1, h4, k2⟩
  cases x with
  | normal => exact fin k
  | ret => exact fin k
  | exit id => exact k.elim

/-! ### Rounds -/
def setPs (tm : Nat → AV) : List Tmp → List AV → (Nat → AV)
  | p :: ps, x :: xs => setPs (upd tm p x) ps xs
  | _, _ => tm

theorem setPs_rel {N : Nat} : ∀ (ps : List Tmp) (xs : List AV) (us : List Value) (tm : Nat → AV) (tmps : Array Value), ps.all (· < N) = true → N ≤ tmps.size → LRel e w xs us → (∀ n, VRel e w (tm n) (tmps.getD n undef)) →
    N ≤ ((ps.zip us).foldl (fun t (p : Tmp × Value) => t.setIfInBounds p.1 p.2) tmps).size ∧ ∀ n, VRel e w (setPs tm ps xs n) (((ps.zip us).foldl (fun t (p : Tmp × Value) => t.setIfInBounds p.1 p.2) tmps).getD n undef) := by
  intro ps
  induction ps with
  | nil => intro xs us tm tmps _ hN _ hT; exact ⟨hN, hT⟩
  | cons p ps ih =>
    intro xs us tm tmps hps hN hL hT
    cases xs with
    | nil =>
      have : us = [] := List.eq_nil_of_length_eq_zero hL.1
      subst this
      exact ⟨hN, hT⟩
    | cons x xs =>
      cases us with
      | nil => exact absurd hL.1 (by simp)
      | cons u us =>
        simp only [List.all_cons, Bool.and_eq_true, decide_eq_true_eq] at hps
        simp only [List.zip_cons_cons, List.foldl_cons, setPs]
        refine ih xs us _ _ hps.2 (by simpa using hN) hL.tail fun n => ?_
        simp only [upd, Array.getD_eq_getD_getElem?, Array.getElem?_setIfInBounds]
        by_cases h : n = p
        · subst h
          have hlt : n < tmps.size := Nat.lt_of_lt_of_le hps.1 hN
          simp [hlt]
          exact hL.head
        · rw [if_neg h, if_neg (fun hh => h hh.symm)]
          have := hT n
          simpa [Array.getD_eq_getD_getElem?] using this

/-- What is asked at a round's end. -/
def roundQ (b : Nat) (R : AV → AHeap → Prop) : AExit → ASt → List ADef → Prop := fun x st _ =>
  ∃ L2, st.heap.get b = some (.loop L2) ∧ match x with
    | .normal => R (.v (.bool true)) (st.heap.set b (.loop { L2 with st := .ready, pend := none }))
    | .ret => R (.v (.bool false)) (st.heap.set b (.loop { L2 with st := .done, pend := some .ret }))
    | .exit id => R (.v (.bool false)) (st.heap.set b (.loop { L2 with st := .done, pend := some (.exit id) }))

/-- What is asked behind the assignments to the loop's left sides: the body. -/
def bodyQ (P : Program) (b : Nat) (ac : ACode) (R : AV → AHeap → Prop) : AExit → ASt → List ADef → Prop
  | .normal, st, ds => ds = [] ∧ ∃ L1, st.heap.get b = some (.loop L1) ∧ L1.st = .ready ∧ swpX P (some b) ac (roundQ b R) ⟨st.tm, st.heap.set b (.loop { L1 with st := .busy })⟩ []
  | _, _, _ => False

theorem SVal.yld (hm : P.follows .mixedOrders = true) {b : Nat} {L : ALoop} {args : List AV} {plans plans' : List (Nat × List (Nat × List Nat))} {ac1 ac2 : ACode} {R : AV → AHeap → Prop} (hb : H.get b = some (.loop L))
    (hps : L.ps.toList.all (· < L.n) = true) (hn : args.length = L.ps.size) (h1 : compCode P L.n plans L.ca = some ac1) (h2 : compCode P L.n plans' L.cb = some ac2)
    (h : swpX P (some b) ac1 (bodyQ P b ac2 R) ⟨setPs L.tm L.ps.toList args, H⟩ []) : SVal P (.yld b) args H R := by
  intro e w uf us n hH hv hL
  cases hv with
  | yld _ c hc =>
  obtain ⟨hlive, r, m1, m2, m3, m4, m5, m6, m7, m8⟩ := getLoop_of hH hb hc
  refine ⟨_, rfl, ?_⟩
  have hy := run_yield (P := P) (args := #[] ++ us.toArray) m1 (by rw [m6, ← hn, ← hL.1]; simp)
  simp only [invoke]
  rw [hy]
  have hfold : ((r.params.zip (#[] ++ us.toArray)).foldl (fun tmps (t, a) => tmps.setIfInBounds t a) r.tmps) = ((L.ps.toList.zip us).foldl (fun t (p : Tmp × Value) => t.setIfInBounds p.1 p.2) r.tmps) := by
    rw [← Array.foldl_toList, m6]
    simp
  obtain ⟨hN, hT⟩ := setPs_rel L.ps.toList args us L.tm r.tmps hps m4 hL m5
  rw [← hfold] at hN hT
  have fin : ∀ (a2 : Act) (w2 : World) (e2 : Emb) (jump : Option Code) (st2 : ASt) (L2 : ALoop), HRel e2 st2.heap w2 → st2.heap.get b = some (.loop L2) → Evo e w e2 w2 →
      R (.v (.bool jump.isNone)) (st2.heap.set b (.loop { L2 with st := if jump.isNone then .ready else .done, pend := jump })) →
      ∃ v w', (Instr.endRound c jump).run P w2 = .ok v w' ∧ CPost e w R (.returned v) w' := by
    intro a2 w2 e2 jump st2 L2 hH2 hb2 hv2 hR
    have hc2 := hv2.old _ _ hc
    obtain ⟨_, r2, p1, p2, p3, p4, p5, p6, p7, p8⟩ := getLoop_of hH2 hb2 hc2
    obtain ⟨q1, q2⟩ := hH2.setLoop (L' := { L2 with st := if jump.isNone then .ready else .done, pend := jump }) hb2 hc2 p1 (r' := { r2 with state := if jump.isNone then .ready else .done, pending := jump }) ⟨rfl, rfl, p4, p5, p6, p7, p8⟩
    exact ⟨_, _, run_endRound jump p1, _, _, _, e2, rfl, hR, q1, .v _ rfl, hv2.trans q2⟩
  refine roundIn_of_wpIn (F := Fence.wide) trivial ?_
  rw [m7, m8]
  refine swpX_sound (rd := some c) (cx := some b) (lo := w.heap.size) hm L.ca ac1 h1 w.heap.size e w ⟨setPs L.tm L.ps.toList args, H⟩ [] { tmps := _, defers := [] } ⟨hH, (show TRel e w _ ⟨_, []⟩ from hT), hN, .nil _, hc, Nat.le_refl _⟩ (Nat.le_refl _) _ h _ fun x st1 ds1 a1 w1 e1 B1 k hs hv1 => ?_
  cases x with
  | ret => exact k.elim
  | exit id => exact k.elim
  | normal =>
  obtain ⟨rfl, L1, hb1, hst1, k⟩ := k
  have hd1 : a1.defers = [] := by have := hs.defs; generalize a1.defers = q at this; cases this; rfl
  have hc1 := hv1.old _ _ hc
  obtain ⟨_, r1, p1, p2, p3, p4, p5, p6, p7, p8⟩ := getLoop_of hs.heap hb1 hc1
  obtain ⟨q1, q2⟩ := hs.heap.setLoop (L' := { L1 with st := .busy }) hb1 hc1 p1 (r' := { r1 with state := .busy }) ⟨rfl, p3, p4, p5, p6, p7, p8⟩
  refine ⟨_, run_beginRound p1 (by rw [p2, hst1]), ?_⟩
  have hv2 := hv1.trans q2
  refine swpX_sound (rd := some c) (cx := some b) (lo := w.heap.size) hm L.cb ac2 h2 B1 e1 _ ⟨st1.tm, st1.heap.set b (.loop { L1 with st := .busy })⟩ [] a1 ⟨q1, fun n => (hs.tm n).evo q2, hs.size, by rw [hd1]; exact .nil _, hc1, Nat.le_trans hs.bd q2.size⟩ (Nat.le_trans hv1.size q2.size) _ k _ fun x st2 ds2 a2 w2 e2 B2 k2 hs2 hv3 => ?_
  obtain ⟨L2, hb2, k2⟩ := k2
  have hv4 := hv2.trans hv3
  cases x with
  | normal => exact fin a2 w2 e2 none st2 L2 hs2.heap hb2 hv4 k2
  | ret => exact fin a2 w2 e2 (some .ret) st2 L2 hs2.heap hb2 hv4 k2
  | exit id => exact fin a2 w2 e2 (some (.exit id)) st2 L2 hs2.heap hb2 hv4 k2

end
end Go.Proofs.Ytooaiddfokbffaa.E

/- Steps of code with ranges over functions, as equations. Conditions: none. -/
set_option linter.unusedVariables false
set_option linter.unusedSimpArgs false
namespace Go.Proofs.Ytooaiddfokbffaa.E
open Go
section
variable {P : Program} {cx : Option Nat} {Q : AExit → ASt → List ADef → Prop} {K : ASt → List ADef → Prop} {st : ASt} {ds : List ADef} {tm : Nat → AV} {H : AHeap}

theorem x_skip : swpX P cx .skip Q st ds = Q .normal st ds := rfl
theorem x_ret : swpX P cx .ret Q st ds = Q .ret st ds := rfl
theorem x_ops (l : List AI) : swpX P cx (.ops l) Q st ds = swpI P l (fun st => Q .normal st ds) st := rfl
theorem x_draw (l : List DItem) : swpX P cx (.draw l) Q st ds = swpD P [] l (fun st => Q .normal st ds) st := rfl
theorem x_seq (a b : ACode) : swpX P cx (.seq a b) Q st ds = swpX P cx a (thenX (swpX P cx b Q) Q) st ds := rfl
theorem x_block (id : Nat) (b : ACode) : swpX P cx (.block id b) Q st ds = swpX P cx b (inBlockX id Q) st ds := rfl
def condX (P : Program) (cx : Option Nat) (x y : ACode) (Q : AExit → ASt → List ADef → Prop) (st : ASt) (ds : List ADef) : AV → Prop
  | .v (.bool t) => if t = true then swpX P cx x Q st ds else swpX P cx y Q st ds
  | _ => False
theorem x_condQ (c : AArg) (x y : ACode) : swpX P cx (.cond c x y) Q st ds = condX P cx x y Q st ds (c.ev st.tm) := by
  show (match c.ev st.tm with
    | .v (.bool t) => if t = true then swpX P cx x Q st ds else swpX P cx y Q st ds
    | _ => False) = _
  generalize c.ev st.tm = v
  cases v with
  | v u => cases u <;> rfl
  | _ => rfl
theorem xc_true (x y : ACode) : condX P cx x y Q st ds (.v (.bool true)) = swpX P cx x Q st ds := rfl
theorem xc_false (x y : ACode) : condX P cx x y Q st ds (.v (.bool false)) = swpX P cx y Q st ds := rfl
theorem xt_normal : thenX K Q .normal st ds = K st ds := rfl
theorem xt_ret : thenX K Q .ret st ds = Q .ret st ds := rfl
theorem xb_normal {id : Nat} : inBlockX id Q .normal st ds = Q .normal st ds := rfl
theorem xp_ret {rs : List ARes} {R : AV → AHeap → Prop} : postX rs R .ret st ds = ∃ vs, resAll st rs = some vs ∧ R (packR vs) st.heap := rfl
@[congr] theorem g_swpX (c : ACode) : swpX P cx c Q st ds = swpX P cx c Q st ds := rfl
@[congr] theorem g_thenX (e : AExit) : thenX K Q e st ds = thenX K Q e st ds := rfl
@[congr] theorem g_inBlockX (id : Nat) (e : AExit) : inBlockX id Q e st ds = inBlockX id Q e st ds := rfl
@[congr] theorem g_condX {x y : ACode} {v v' : AV} (h : v = v') : condX P cx x y Q st ds v = condX P cx x y Q st ds v' := by rw [h]
@[congr] theorem g_postX (rs : List ARes) (R : AV → AHeap → Prop) (e : AExit) : postX rs R e st ds = postX rs R e st ds := rfl

/-- A loop over a function. -/
theorem x_rangeF {g : AArg} {ps : Array Tmp} {n : Nat} {ca cb : Code} {a b : ACode} {gf : FuncId} {fs cs : List AV} {R : AV → AHeap → Prop} (hcx : ∀ b0, cx = some b0 → ∃ L0, H.get b0 = some (.loop L0)) (hg : g.ev tm = .fn (.func gf) fs cs)
    (h : SCall P gf (fs ++ (.yld H.next :: cs)) (H.new (.loop ⟨.ready, none, n, tm, ps, ca, cb⟩)) R)
    (hk : ∀ x H2, R x H2 → ∃ L2, H2.get H.next = some (.loop L2) ∧ L2.st ≠ .busy ∧ afterX Q ⟨tm, H2.set H.next (.loop { L2 with st := .exhausted })⟩ (if cx.isNone then .mark :: ds else ds) L2.pend) :
    swpX P cx (.rangeF g ps n ca cb a b) Q ⟨tm, H⟩ ds := ⟨hcx, gf, fs, cs, hg, h.mono fun x H2 hr => hk x H2 hr⟩

/-- A call of yield. -/
theorem i_callY {K : ASt → Prop} {d : Option Nat} {f : AArg} {args : List AArg} {b : Nat} {azs : List AV} {R : AV → AHeap → Prop} (hf : f.ev tm = .yld b) (ha : args.map (·.ev tm) = azs) (h : SVal P (.yld b) azs H R)
    (hk : ∀ x H', R x H' → K ⟨updO tm d x, H'⟩) : stepI P (.call d none f args) ⟨tm, H⟩ K := by
  simp only [stepI, stepV, gOk, if_true]
  subst ha
  rw [hf]
  exact .inr (h.mono hk)

end
end Go.Proofs.Ytooaiddfokbffaa.E

/- The code of tele.bind, over abstract states. Conditions: none. -/
set_option maxRecDepth 100000
set_option linter.unusedVariables false
namespace Go.Proofs.Ytooaiddfokbffaa.E
open Go Go.Proofs
noncomputable def a89 : ACode := (.seq (.ops [(.op (some 12) none (.move (.t 37)))]) (.ops [(.op (some 13) none (.alloc [(.v (.int .i64 0)), (.v (.int .i64 0)), (.v (.bool false)), (.v (.string (ByteArray.mk #[]))), (.v (.slice none 0 0)), (.v (.slice none 0 0))])), (.op none none (.store 6 (.t 13) (.t 38)))]))
noncomputable def b89 : ACode := (.block 1 (.draw [⟨(.op (some 39) none (.load false 1 (.t 4))), []⟩, ⟨(.op (some 40) none (.load false 1 (.t 11))), []⟩, ⟨(.op (some 41) none (.move (.t 12))), []⟩, ⟨(.op (some 43) none (.load true 6 (.t 13))), []⟩, ⟨(.op (some 44) none (.load true 6 (.t 7))), []⟩, ⟨(.call (some 42) none (.t 40) [(.t 41)]), [0, 3, 4]⟩, ⟨(.call (some 45) none (.c (.fn (.func 136) [] [])) [(.t 39), (.t 42), (.t 43), (.t 44)]), []⟩, ⟨(.op none none (.store 6 (.t 7) (.t 45))), []⟩]))
noncomputable def c89 : AFn := ⟨[(.c 8 6 true), (.t 9)], (.seq (.ops [(.op (some 4) none (.box (.t 0))), (.op (some 7) none (.box (.t 3))), (.op (some 8) none (.alloc [(.v (.int .i64 0)), (.v (.int .i64 0)), (.v (.bool false)), (.v (.string (ByteArray.mk #[]))), (.v (.slice none 0 0)), (.v (.slice none 0 0))])), (.op (some 9) none (.move (.c (.v (.int .i64 0)))))]) (.seq (.seq (.ops [(.op (some 15) none (.move (.t 1))), (.op (some 16) none (.len .slice (.t 15))), (.op (some 17) none (.ibin .gtr (.t 16) (.c (.v (.int .i64 60)))))]) (.cond (.t 17) (.seq (.ops [(.op (some 18) none (.build [(.v (.int .i64 0)), (.v (.int .i64 0)), (.v (.bool false)), (.v (.string (ByteArray.mk #[]))), (.v (.slice none 0 0)), (.v (.slice none 0 0))] [])), (.op none none (.store 6 (.t 8) (.t 18))), (.op (some 9) none (.move (.c (.v (.int .i64 2)))))]) .ret) .skip)) (.seq (.seq (.draw [⟨(.op (some 19) none (.move (.t 1))), []⟩, ⟨(.op (some 20) none (.move (.t 1))), []⟩, ⟨(.op (some 21) none (.len .slice (.t 20))), []⟩, ⟨(.op (some 22) none (.move (.t 1))), []⟩, ⟨(.op (some 23) none (.len .slice (.t 22))), []⟩, ⟨(.op (some 24) none (.slice 6 (.t 19) none (some (.t 21)) (some (.t 23)))), []⟩, ⟨(.op (some 25) none (.load true 6 (.t 7))), []⟩, ⟨(.op (some 26) none (.buildS 6 1 [(.v (.int .i64 0)), (.v (.int .i64 0)), (.v (.bool false)), (.v (.string (ByteArray.mk #[]))), (.v (.slice none 0 0)), (.v (.slice none 0 0))] [(0, (6, (.t 25)))])), []⟩, ⟨(.op (some 27) none (.append 6 88 (.t 24) (.t 26))), []⟩, ⟨(.call (some 28) none (.c (.fn (.func 90) [] [])) [(.t 27)]), []⟩, ⟨(.op (some 10) none (.move (.t 28))), []⟩]) (.seq (.ops [(.op (some 29) none (.move (.t 10))), (.op (some 30) none (.ibin .neq (.t 29) (.c (.v (.int .i64 0)))))]) (.cond (.t 30) (.seq (.ops [(.op (some 31) none (.build [(.v (.int .i64 0)), (.v (.int .i64 0)), (.v (.bool false)), (.v (.string (ByteArray.mk #[]))), (.v (.slice none 0 0)), (.v (.slice none 0 0))] [])), (.op (some 32) none (.move (.t 10))), (.op none none (.store 6 (.t 8) (.t 31))), (.op (some 9) none (.move (.t 32)))]) .ret) .skip))) (.seq (.ops [(.op (some 33) none (.move (.t 2))), (.call (some 34) none (.c (.fn (.func 91) [] [])) [(.t 33)]), (.op (some 11) none (.alloc [(.v .nilFunc)])), (.op none none (.store 1 (.t 11) (.t 34)))]) (.seq (.seq (.ops [(.op (some 35) none (.move (.t 1))), (.call (some 36) none (.c (.fn (.func 135) [] [])) [(.t 35)])]) (.block 0 (.rangeF (.t 36) #[37, 38] 54 (rfA Try.prog 89 0) (rfB Try.prog 89 0) a89 b89))) (.seq (.seq (.ops [(.op (some 46) none (.load true 6 (.t 7))), (.call (some 47) none (.c (.fn (.func 24) [] [])) [(.t 46)]), (.op (some 14) none (.move (.t 47)))]) (.seq (.ops [(.op (some 48) none (.move (.t 14))), (.op (some 49) none (.ibin .neq (.t 48) (.c (.v (.int .i64 0)))))]) (.cond (.t 49) (.seq (.ops [(.op (some 50) none (.build [(.v (.int .i64 0)), (.v (.int .i64 0)), (.v (.bool false)), (.v (.string (ByteArray.mk #[]))), (.v (.slice none 0 0)), (.v (.slice none 0 0))] [])), (.op (some 51) none (.move (.t 14))), (.op none none (.store 6 (.t 8) (.t 50))), (.op (some 9) none (.move (.t 51)))]) .ret) .skip))) (.seq (.ops [(.op (some 52) none (.load true 6 (.t 7))), (.call (some 53) none (.c (.fn (.func 76) [] [])) [(.t 52)]), (.op none none (.store 6 (.t 8) (.t 53))), (.op (some 9) none (.move (.c (.v (.int .i64 0)))))]) .ret)))))))⟩
def pl89 : List (Nat × List (Nat × List Nat)) := [(3, [(0, []), (1, []), (2, []), (3, []), (4, []), (5, []), (6, []), (7, []), (8, []), (9, []), (10, [])]), (10, [(0, []), (1, []), (2, []), (4, []), (5, []), (3, [0, 3, 4]), (6, []), (7, [])])]
theorem cf89 : compFn Try.prog 89 pl89 = some c89 := by kernel_rfl
theorem ca89 : compCode Try.prog 54 pl89 (rfA Try.prog 89 0) = some a89 := by kernel_rfl
theorem cb89 : compCode Try.prog 54 pl89 (rfB Try.prog 89 0) = some b89 := by kernel_rfl
end Go.Proofs.Ytooaiddfokbffaa.E

/- The iterator of tele's bind (function 175): it hands over a row from its end. Conditions: none. -/
set_option linter.unusedVariables false
set_option linter.unusedSimpArgs false
namespace Go.Proofs.Ytooaiddfokbffaa.E
open Go Go.Proofs
attribute [local go_sem] s_seq s_ops s_draw s_block s_skip s_ret s_exit i_nil i_cons i_run i_runG s_condQ c_true c_false aop ev_t ev_c updO_at updO_no upd_at t_normal t_ret t_exit b_normal b_ret b_exit a_some ac_v ac_agg ac_ptr ac_slc ac_ro ac_rop ac_fn new_next set_next argTm_zero argTm_succ argTm_nil ab_bool ab_uv beq_self_eq_true Option.some_beq_some Bool.not_not beq_iff_eq decide_true decide_false Bool.not_true Bool.not_false afld aload astore apack alen_str alen_ro alen_slc alen_nil new_get set_get ite_true ite_false Option.map_some Option.bind_some ibin isShift Nat.add_zero Nat.zero_add List.length_cons List.length_nil List.drop_zero List.drop_succ_cons List.take_succ_cons List.take_zero if_true if_false setL List.set_cons_zero List.set_cons_succ List.all_cons List.all_nil one_int one_bool one_str one_nil one_ptr one_slc one_ro one_rop one_fn Bool.and_self Bool.and_true true_and and_true and_self Bool.false_eq_true post_ret post_normal resAll resOne packR Option.some.injEq exists_eq_left' List.map_cons List.map_nil List.nil_append List.append_nil List.cons_append d_nil d_cons k_nil k_cons g_op g_same g_new avBlock forall_eq' List.getElem?_cons_succ List.getElem?_cons_zero List.getElem?_nil okind gOk bne false_imp_iff forall_const imp_self implies_true true_imp_iff i_callG

set_option maxRecDepth 100000 in
theorem iter175 {ks : List Tm} {x : AV} {H0 : AHeap} (hx : RowAt ks x H0) (hn : ks.length ≤ 1000) (b bx : Nat) (I : Nat → AHeap → Prop) (hI : ∀ i G, I i G → Ext H0 G ∧ G.get bx = some (.cells [x]))
    (hstep : ∀ i (hi : i < ks.length) G c, I (i + 1) G → TmP ks[i] c → SVal Try.prog (.yld b) [aint i, .agg c] G (fun r G' => r = abl true ∧ I i G')) (H : AHeap) (h0 : I ks.length H) :
    SCall Try.prog 175 [.yld b, .ptr bx 0] H fun _ H' => I 0 H' := by
  obtain ⟨hE0, hg0⟩ := hI _ _ h0
  have w0 : IntKind.i64.wrap ((ks.length : Int) - 1) = (ks.length : Int) - 1 := i64_ok _ (by omega)
  have hlen := hx.len
  refine SCall.intro mixed cf175 ?_
  simp -implicitDefEqProofs only [c175, go_sem, Nat.reduceEqDiff, Nat.reduceAdd, Nat.reduceLeDiff, ↓reduceIte, reduceCtorEq, Int.reduceBEq, Int.reduceBNe, Int.reduceLT, Int.reduceLE, Int.reduceGT, Int.reduceGE, Int.reduceNeg, Int.reduceAdd, Int.reduceSub, Nat.reduceMul, Nat.reduceLT, Int.reduceToNat, hg0, hlen, w0, hx.one, hx.cells]
  refine swp_loop (fun k st => k ≤ ks.length ∧ st.tm 0 = .yld b ∧ st.tm 1 = .ptr bx 0 ∧ st.tm 3 = aint ((k : Int) - 1) ∧ I k st.heap) (k := ks.length) ?_ ?_
  · exact ⟨Nat.le_refl _, rfl, rfl, rfl, h0⟩
  · rintro k ⟨tm, G⟩ ⟨hk, t0, t1, t3, hG⟩
    simp only at t0 t1 t3 hG
    obtain ⟨hE, hg⟩ := hI _ _ hG
    cases k with
    | zero =>
      have hneg : ¬ ((((0 : Nat) : Int)) - 1 ≥ 0) := by omega
      simp -implicitDefEqProofs only [go_sem, Nat.reduceEqDiff, Nat.reduceAdd, Nat.reduceLeDiff, ↓reduceIte, reduceCtorEq, Int.reduceBEq, Int.reduceBNe, Int.reduceLT, Int.reduceLE, Int.reduceGT, Int.reduceGE, Int.reduceNeg, Int.reduceAdd, Int.reduceSub, Nat.reduceMul, Nat.reduceLT, Int.reduceToNat, t0, t1, t3, hneg]
      exact hG
    | succ i =>
      have hi : i < ks.length := by omega
      have hii : (((i + 1 : Nat) : Int)) - 1 = (i : Int) := by omega
      have w3 : IntKind.i64.wrap ((i : Int) - 1) = (i : Int) - 1 := i64_ok _ (by omega)
      have hpos' : ((i : Int) ≥ 0) = True := by simp
      obtain ⟨p, hp, hl⟩ := hx.elt i hi
      obtain ⟨c, hc, hT⟩ := hl G hE
      rw [hii] at t3
      have hc' := hc
      simp only [aload] at hc'
      simp -implicitDefEqProofs only [go_sem, Nat.reduceEqDiff, Nat.reduceAdd, Nat.reduceLeDiff, ↓reduceIte, reduceCtorEq, Int.reduceBEq, Int.reduceBNe, Int.reduceLT, Int.reduceLE, Int.reduceGT, Int.reduceGE, Int.reduceNeg, Int.reduceAdd, Int.reduceSub, Nat.reduceMul, Nat.reduceLT, Int.reduceToNat, t0, t1, t3, hpos', hg, hp, hc', hx.one, hx.cells]
      refine i_callY (b := b) ?_ ?_ (hstep i hi G c hG hT) ?_
      · rfl
      · simp -implicitDefEqProofs only [go_sem, Nat.reduceEqDiff, Nat.reduceAdd, Nat.reduceLeDiff, ↓reduceIte, reduceCtorEq, Int.reduceBEq, Int.reduceBNe, Int.reduceLT, Int.reduceLE, Int.reduceGT, Int.reduceGE, Int.reduceNeg, Int.reduceAdd, Int.reduceSub, Nat.reduceMul, Nat.reduceLT, Int.reduceToNat]
      rintro r G' ⟨rfl, hG'⟩
      simp -implicitDefEqProofs only [go_sem, Nat.reduceEqDiff, Nat.reduceAdd, Nat.reduceLeDiff, ↓reduceIte, reduceCtorEq, Int.reduceBEq, Int.reduceBNe, Int.reduceLT, Int.reduceLE, Int.reduceGT, Int.reduceGE, Int.reduceNeg, Int.reduceAdd, Int.reduceSub, Nat.reduceMul, Nat.reduceLT, Int.reduceToNat, t0, t1, t3, w3]
      exact ⟨i, by omega, by omega, rfl, hG'⟩
end Go.Proofs.Ytooaiddfokbffaa.E

/- A round of tele's bind. Conditions: none. -/
set_option linter.unusedVariables false
set_option linter.unusedSimpArgs false
namespace Go.Proofs.Ytooaiddfokbffaa.E
open Go Go.Proofs
attribute [local go_sem] s_seq s_ops s_draw s_block s_skip s_ret s_exit i_nil i_cons i_run i_runG s_condQ c_true c_false aop ev_t ev_c updO_at updO_no upd_at t_normal t_ret t_exit b_normal b_ret b_exit a_some ac_v ac_agg ac_ptr ac_slc ac_ro ac_rop ac_fn new_next set_next argTm_zero argTm_succ argTm_nil ab_bool ab_uv beq_self_eq_true Option.some_beq_some Bool.not_not beq_iff_eq decide_true decide_false Bool.not_true Bool.not_false afld aload astore apack alen_str alen_ro alen_slc alen_nil new_get set_get ite_true ite_false Option.map_some Option.bind_some ibin isShift Nat.add_zero Nat.zero_add List.length_cons List.length_nil List.drop_zero List.drop_succ_cons List.take_succ_cons List.take_zero if_true if_false setL List.set_cons_zero List.set_cons_succ List.all_cons List.all_nil one_int one_bool one_str one_nil one_ptr one_slc one_ro one_rop one_fn Bool.and_self Bool.and_true true_and and_true and_self Bool.false_eq_true post_ret post_normal resAll resOne packR Option.some.injEq exists_eq_left' List.map_cons List.map_nil List.nil_append List.append_nil List.cons_append d_nil d_cons k_nil k_cons g_op g_same g_new avBlock forall_eq' List.getElem?_cons_succ List.getElem?_cons_zero List.getElem?_nil okind gOk bne false_imp_iff forall_const imp_self implies_true true_imp_iff i_callG

/-- The record of bind's loop. -/
noncomputable def bindL (tm : Nat → AV) : ALoop := ⟨.ready, none, 54, tm, #[37, 38], rfA Try.prog 89 0, rfB Try.prog 89 0⟩

/-- What holds behind the rounds down to i. -/
def BindI (H0 : AHeap) (n : Nat) (f : Int) (hs : List Bool) (ks : List Tm) (t : Tm) (x y : AV) (tm : Nat → AV) (i : Nat) (G : AHeap) : Prop :=
  Ext H0 G ∧ n + 9 ≤ G.next ∧ G.get n = some (.cells [aint f]) ∧ (∃ c, G.get (n + 1) = some (.cells c) ∧ TmP (telT f hs i (ks.drop i) t) c) ∧ G.get (n + 2) = some (.cells z6) ∧ G.get (n + 5) = some (.cells [y]) ∧
  G.get (n + 6) = some (.cells [.fn (.func 137) [] [.ptr (n + 5) 0]]) ∧ G.get (n + 7) = some (.cells [x]) ∧ G.get (n + 8) = some (.loop (bindL tm))

set_option maxRecDepth 100000 in
theorem bind_round {H0 : AHeap} {n : Nat} (hn : H0.next ≤ n) {f : Int} {hs : List Bool} {ks : List Tm} {t : Tm} {x y : AV} {tm : Nat → AV} (hy : HidR hs y) (h4 : tm 4 = .ptr n 0) (h7 : tm 7 = .ptr (n + 1) 0) (h11 : tm 11 = .ptr (n + 6) 0)
    (i : Nat) (hi : i < ks.length) (hlim : ks.length ≤ 1000) (G : AHeap) (c : List AV) (hG : BindI H0 n f hs ks t x y tm (i + 1) G) (hT : TmP ks[i] c) :
    SVal Try.prog (.yld (n + 8)) [aint i, .agg c] G (fun r G' => r = abl true ∧ BindI H0 n f hs ks t x y tm i G') := by
  obtain ⟨hE, hnx, g0, ⟨d, g1, hd⟩, g2, g5, g6, g7, g8⟩ := hG
  obtain ⟨lx, kx, hc6, p1, p2, p3, p4, p5, p6, p7, p8⟩ := hT.six
  obtain ⟨ly, ky, hd6, q1, q2, q3, q4, q5, q6, q7, q8⟩ := hd.six
  subst hc6 hd6
  refine SVal.yld mixed g8 (by simp [bindL]) (by simp [bindL]) ca89 cb89 ?_
  have hps : (bindL tm).ps.toList = [37, 38] := rfl
  have htm : (bindL tm).tm = tm := rfl
  have m8 : ¬ n + 8 = G.next := by omega
  have m8' : ¬ G.next = n + 8 := by omega
  have m0 : ¬ n = G.next := by omega
  have m1 : ¬ n + 1 = G.next := by omega
  have m5 : ¬ n + 5 = G.next := by omega
  have m6 : ¬ n + 6 = G.next := by omega
  have e0 : ¬ n = n + 8 := by omega
  have e1 : ¬ n + 1 = n + 8 := by omega
  have e5 : ¬ n + 5 = n + 8 := by omega
  have e6 : ¬ n + 6 = n + 8 := by omega
  rw [hps, htm]
  simp -implicitDefEqProofs only [a89, b89, go_sem, Nat.reduceEqDiff, Nat.reduceAdd, Nat.reduceLeDiff, ↓reduceIte, reduceCtorEq, Int.reduceBEq, Int.reduceBNe, Int.reduceLT, Int.reduceLE, Int.reduceGT, Int.reduceGE, Int.reduceNeg, Int.reduceAdd, Int.reduceSub, Nat.reduceMul, Nat.reduceLT, Int.reduceToNat, setPs, x_seq, x_ops, x_draw, x_block, xt_normal, xb_normal, h4, h7, h11, p1, p2, p3, p4, bodyQ, m8, m8', m0, m1, m5, m6, e0, e1, e5, e6, g0, g1, g5, g6, g8]
  refine ⟨_, rfl, rfl, ?_⟩
  refine i_callA (fs := []) (cs := [.ptr (n + 5) 0]) (fid := 137) ?_ ?_ (hidden1_ok hs y hy i (by omega) (n + 5) _ ?_) ?_
  · rfl
  · simp -implicitDefEqProofs only [go_sem, Nat.reduceEqDiff, Nat.reduceAdd, Nat.reduceLeDiff, ↓reduceIte, reduceCtorEq, Int.reduceBEq, Int.reduceBNe, Int.reduceLT, Int.reduceLE, Int.reduceGT, Int.reduceGE, Int.reduceNeg, Int.reduceAdd, Int.reduceSub, Nat.reduceMul, Nat.reduceLT, Int.reduceToNat]
  · simp -implicitDefEqProofs only [go_sem, Nat.reduceEqDiff, Nat.reduceAdd, Nat.reduceLeDiff, ↓reduceIte, reduceCtorEq, Int.reduceBEq, Int.reduceBNe, Int.reduceLT, Int.reduceLE, Int.reduceGT, Int.reduceGE, Int.reduceNeg, Int.reduceAdd, Int.reduceSub, Nat.reduceMul, Nat.reduceLT, Int.reduceToNat, m5, e5, g5]
  rintro r G1 ⟨rfl, hHH⟩
  have hHH := hHH.symm
  subst hHH
  simp -implicitDefEqProofs only [go_sem, Nat.reduceEqDiff, Nat.reduceAdd, Nat.reduceLeDiff, ↓reduceIte, reduceCtorEq, Int.reduceBEq, Int.reduceBNe, Int.reduceLT, Int.reduceLE, Int.reduceGT, Int.reduceGE, Int.reduceNeg, Int.reduceAdd, Int.reduceSub, Nat.reduceMul, Nat.reduceLT, Int.reduceToNat, xt_normal, xb_normal, h4, h7, h11, p1, p2, p3, p4, m8, m8', m0, m1, m5, m6, e0, e1, e5, e6, g0, g1, g5, g6, g8]
  refine i_callA (fs := []) (cs := []) (fid := 136) ?_ ?_ (node_ok f (hidF hs i) ks[i] (telT f hs (i + 1) (ks.drop (i + 1)) t) _ _ hT hd _) ?_
  · rfl
  · simp -implicitDefEqProofs only [go_sem, Nat.reduceEqDiff, Nat.reduceAdd, Nat.reduceLeDiff, ↓reduceIte, reduceCtorEq, Int.reduceBEq, Int.reduceBNe, Int.reduceLT, Int.reduceLE, Int.reduceGT, Int.reduceGE, Int.reduceNeg, Int.reduceAdd, Int.reduceSub, Nat.reduceMul, Nat.reduceLT, Int.reduceToNat]
  rintro r G1 ⟨⟨c, rfl, hc⟩, hHH⟩
  have hHH := hHH.symm
  subst hHH
  obtain ⟨lz, kz, hc6, r1, r2, r3, r4, r5, r6, r7, r8⟩ := hc.six
  subst hc6
  have n8 : ¬ n + 8 = n + 1 := by omega
  simp -implicitDefEqProofs only [go_sem, Nat.reduceEqDiff, Nat.reduceAdd, Nat.reduceLeDiff, ↓reduceIte, reduceCtorEq, Int.reduceBEq, Int.reduceBNe, Int.reduceLT, Int.reduceLE, Int.reduceGT, Int.reduceGE, Int.reduceNeg, Int.reduceAdd, Int.reduceSub, Nat.reduceMul, Nat.reduceLT, Int.reduceToNat, xt_normal, xb_normal, h4, h7, h11, r1, r2, r3, r4, m8, m8', m0, m1, m5, m6, e0, e1, e5, e6, g0, g1, g5, g6, g8, n8, roundQ]
  have hlt0 := hE.1
  have hc' := hc
  rw [← telT_drop f hs t hi] at hc'
  have k8 : ∀ j, j < 9 → ¬ n + j = G.next := fun j hj => by omega
  have kk : ∀ j k, j ≠ k → ¬ n + j = n + k := fun j k hj => by omega
  refine ⟨_, rfl, (((((hE.new _).set (by omega) _).set (by omega) _).set (by omega) _).set (by omega) _), ?_, ?_, ⟨_, ?_, hc'⟩, ?_, ?_, ?_, ?_, ?_⟩
  · simp only [set_next, new_next]; omega
  · simp only [set_get, new_get]
    rw [if_neg e0, if_neg (by omega), if_neg e0, if_neg m0, if_neg m0]; exact g0
  · simp only [set_get, new_get]
    rw [if_neg e1, if_pos trivial, telT_drop f hs t hi]
  · simp only [set_get, new_get]
    rw [if_neg (kk 2 8 (by omega)), if_neg (kk 2 1 (by omega)), if_neg (kk 2 8 (by omega)), if_neg (k8 2 (by omega)), if_neg (k8 2 (by omega))]; exact g2
  · simp only [set_get, new_get]
    rw [if_neg (kk 5 8 (by omega)), if_neg (kk 5 1 (by omega)), if_neg (kk 5 8 (by omega)), if_neg (k8 5 (by omega)), if_neg (k8 5 (by omega))]; exact g5
  · simp only [set_get, new_get]
    rw [if_neg (kk 6 8 (by omega)), if_neg (kk 6 1 (by omega)), if_neg (kk 6 8 (by omega)), if_neg (k8 6 (by omega)), if_neg (k8 6 (by omega))]; exact g6
  · simp only [set_get, new_get]
    rw [if_neg (kk 7 8 (by omega)), if_neg (kk 7 1 (by omega)), if_neg (kk 7 8 (by omega)), if_neg (k8 7 (by omega)), if_neg (k8 7 (by omega))]; exact g7
  · simp only [set_get, new_get]
    rw [if_pos trivial]
    rfl

/-- The loop of bind, whole. -/
theorem bind_loop {Q : AExit → ASt → List ADef → Prop} {H0 : AHeap} {n : Nat} (hn : H0.next ≤ n) {f : Int} {hs : List Bool} {ks : List Tm} {t : Tm} {x y : AV} (hx : RowAt ks x H0) (hy : HidR hs y) (hlim : ks.length ≤ 1000) (tm : Nat → AV) (G : AHeap)
    (h4 : tm 4 = .ptr n 0) (h7 : tm 7 = .ptr (n + 1) 0) (h11 : tm 11 = .ptr (n + 6) 0) (h36 : tm 36 = .fn (.func 175) [] [.ptr (n + 7) 0]) (hE : Ext H0 G) (hnx : G.next = n + 8)
    (g0 : G.get n = some (.cells [aint f])) (g1 : ∃ c, G.get (n + 1) = some (.cells c) ∧ TmP t c) (g2 : G.get (n + 2) = some (.cells z6)) (g5 : G.get (n + 5) = some (.cells [y]))
    (g6 : G.get (n + 6) = some (.cells [.fn (.func 137) [] [.ptr (n + 5) 0]])) (g7 : G.get (n + 7) = some (.cells [x]))
    (hk : ∀ G2, BindI H0 n f hs ks t x y tm 0 G2 → Q .normal ⟨tm, G2.set (n + 8) (.loop { bindL tm with st := .exhausted })⟩ [.mark]) :
    swpX Try.prog none (.rangeF (.t 36) #[37, 38] 54 (rfA Try.prog 89 0) (rfB Try.prog 89 0) a89 b89) Q ⟨tm, G⟩ [] := by
  obtain ⟨c, g1, hc⟩ := g1
  refine x_rangeF (gf := 175) (fs := []) (cs := [.ptr (n + 7) 0]) (R := fun _ H2 => BindI H0 n f hs ks t x y tm 0 H2) (fun b0 h => by cases h) h36 ?_ ?_
  · rw [hnx]
    refine iter175 hx hlim (n + 8) (n + 7) (BindI H0 n f hs ks t x y tm) (fun i G hG => ⟨hG.1, hG.2.2.2.2.2.2.2.1⟩) (fun i hi G c hG hT => bind_round hn hy h4 h7 h11 i hi hlim G c hG hT) _ ?_
    refine ⟨hE.new _, by rw [new_next]; omega, ?_, ⟨c, ?_, ?_⟩, ?_, ?_, ?_, ?_, ?_⟩
    · rw [new_get, if_neg (by omega)]; exact g0
    · rw [new_get, if_neg (by omega)]; exact g1
    · rw [telT_end]; exact hc
    · rw [new_get, if_neg (by omega)]; exact g2
    · rw [new_get, if_neg (by omega)]; exact g5
    · rw [new_get, if_neg (by omega)]; exact g6
    · rw [new_get, if_neg (by omega)]; exact g7
    · rw [new_get, if_pos hnx.symm]; rfl
  · rintro _ H2 hB
    rw [hnx]
    exact ⟨bindL tm, hB.2.2.2.2.2.2.2.2, by simp [bindL], hk H2 hB⟩
end Go.Proofs.Ytooaiddfokbffaa.E

/- tele.bind. Conditions: none. -/
set_option linter.unusedVariables false
set_option linter.unusedSimpArgs false
namespace Go.Proofs.Ytooaiddfokbffaa.E
open Go Go.Proofs
attribute [local go_sem] s_seq s_ops s_draw s_block s_skip s_ret s_exit i_nil i_cons i_run i_runG s_condQ c_true c_false aop ev_t ev_c updO_at updO_no upd_at t_normal t_ret t_exit b_normal b_ret b_exit a_some ac_v ac_agg ac_ptr ac_slc ac_ro ac_rop ac_fn new_next set_next argTm_zero argTm_succ argTm_nil ab_bool ab_uv beq_self_eq_true Option.some_beq_some Bool.not_not beq_iff_eq decide_true decide_false Bool.not_true Bool.not_false afld aload astore apack alen_str alen_ro alen_slc alen_nil new_get set_get ite_true ite_false Option.map_some Option.bind_some ibin isShift Nat.add_zero Nat.zero_add List.length_cons List.length_nil List.drop_zero List.drop_succ_cons List.take_succ_cons List.take_zero if_true if_false setL List.set_cons_zero List.set_cons_succ List.all_cons List.all_nil one_int one_bool one_str one_nil one_ptr one_slc one_ro one_rop one_fn Bool.and_self Bool.and_true true_and and_true and_self Bool.false_eq_true post_ret post_normal resAll resOne packR Option.some.injEq exists_eq_left' List.map_cons List.map_nil List.nil_append List.append_nil List.cons_append d_nil d_cons k_nil k_cons g_op g_same g_new avBlock forall_eq' List.getElem?_cons_succ List.getElem?_cons_zero List.getElem?_nil okind gOk bne false_imp_iff forall_const imp_self implies_true true_imp_iff i_callG

theorem allL_snoc {p : Tm → Prop} : ∀ {ks : List Tm} {t : Tm}, Tm.AllL p ks → Tm.All p t → Tm.AllL p (ks ++ [t])
  | [], t, _, h => ⟨h, trivial⟩
  | k :: r, t, ⟨h1, h2⟩, h => ⟨h1, allL_snoc h2 h⟩

theorem telT_b {f : Int} (hf : Rng f) {hs : List Bool} : ∀ {ks : List Tm} {i : Nat} {t : Tm}, Tm.AllL TmB ks → Tm.All TmB t → Tm.All TmB (telT f hs i ks t)
  | [], i, t, _, h => h
  | k :: r, i, t, ⟨h1, h2⟩, h => by
    simp only [telT, Tm.All, Tm.AllL]
    exact ⟨⟨hf, by simp [Rng, Tm.n], by simp [Tm.name, zeroS]; decide, by simp [Tm.lv], by simp [Tm.kids], by simp [Tm.lv]⟩, h1, telT_b hf h2 h, trivial⟩

/-- What bind answers. -/
def BindR (f : Int) (hs : List Bool) (ks : List Tm) (t : Tm) (r : AV) : Prop := ∃ c e u, r = .tup [.agg c, aint e] ∧ TmP u c ∧
  ((ks.length ≤ 60 ∧ askF (ks ++ [t]) = 0 ∧ checkF canF (telT f hs 0 ks t) = 0) → e = 0) ∧ (e = 0 → ks.length ≤ 60 ∧ askF (ks ++ [t]) = 0 ∧ checkF canF (telT f hs 0 ks t) = 0 ∧ u = cleanT (telT f hs 0 ks t))

set_option maxRecDepth 100000 in
theorem bind_ok (f : Int) (hs : List Bool) (ks : List Tm) (t : Tm) (hfr : Rng f) (hkb : Tm.AllL TmB ks) (htb : Tm.All TmB t) (hn : ks.length ≤ 4611686018427387904) (x y : AV) (tc : List AV) (H : AHeap) (hx : RowAt ks x H) (hy : HidR hs y) (hT : TmP t tc) :
    SCall Try.prog 89 [aint f, x, y, .agg tc] H fun r H' => BindR f hs ks t r ∧ H' = H := by
  obtain ⟨lx, kx, hc6, p1, p2, p3, p4, p5, p6, p7, p8⟩ := hT.six
  subst hc6
  have hxl := hx.len
  have e0 : ∀ j, ¬ H.next = H.next + (j + 1) := fun j => by omega
  have e1 : ∀ j, ¬ H.next + (j + 1) = H.next := fun j => by omega
  have e2 : ∀ j k, (H.next + j = H.next + k) = (j = k) := fun j k => by simp
  have e3 : (H.next = H.next + 1) = False := by simp
  have e4 : (H.next = H.next + 2) = False := by simp
  have e5 : (H.next = H.next + 3) = False := by simp
  have e6 : (H.next = H.next + 4) = False := by simp
  have e7 : (H.next = H.next + 5) = False := by simp
  have e8 : (H.next = H.next + 6) = False := by simp
  have e9 : (H.next = H.next + 8) = False := by simp
  have e10 : (H.next = H.next + 7) = False := by simp
  have hold : ∀ {c : List AV} {u : Tm}, TmP u c → ∀ e : Int, Old H.next (.tup [.agg c, aint e]) := fun hc e => .tup _ fun y hy => by
    simp at hy
    rcases hy with rfl | rfl
    · exact .agg _ fun z hz => (hc.2 z hz).mono (Nat.zero_le _)
    · exact .v _
  refine SCall.frz (R := fun r H' => Ext H H' ∧ BindR f hs ks t r) (SCall.introX mixed cf89 ?_) ?_
  · by_cases hlen : (ks.length : Int) > 60
    · simp -implicitDefEqProofs only [c89, go_sem, Nat.reduceEqDiff, Nat.reduceAdd, Nat.reduceLeDiff, ↓reduceIte, reduceCtorEq, Int.reduceBEq, Int.reduceBNe, Int.reduceLT, Int.reduceLE, Int.reduceGT, Int.reduceGE, Int.reduceNeg, Int.reduceAdd, Int.reduceSub, Nat.reduceMul, Nat.reduceLT, Int.reduceToNat, x_seq, x_ops, x_draw, x_block, x_condQ, x_ret, x_skip, xc_true, xc_false, xt_normal, xt_ret, xb_normal, xp_ret, p1, p2, p3, p4, hxl, hx.one, hx.cells, hlen, e2, e3, e4, e5, e6, Nat.add_assoc, Nat.succ_ne_self, afill]
      exact ⟨((((Ext.refl H).new _).new _).new _).set (by omega) _, _, 2, zeroTm, rfl, tmp_zero, fun h => by omega, fun h => by omega⟩
    · have hn60 : ks.length ≤ 60 := by omega
      have hnn : (0 : Int) ≤ (ks.length : Int) := by omega
      obtain ⟨y', hsl, ha⟩ := hx.app (by omega)
      obtain ⟨l, happ, hX⟩ := ha ((((H.new (.cells [aint f])).new (.cells [aint t.form, aint t.n, abl t.hid, .v (.string t.name), lx, kx])).new (.cells z6)).new (.cells [aint t.form, aint t.n, abl t.hid, .v (.string t.name), lx, kx])) (H.next + 3) t _ (((((Ext.refl H).new _).new _).new _).new _) hT (by rw [new_get]; exact if_pos rfl)
      simp only [new_next, Nat.add_assoc, Nat.reduceAdd] at happ
      simp -implicitDefEqProofs only [c89, go_sem, Nat.reduceEqDiff, Nat.reduceAdd, Nat.reduceLeDiff, ↓reduceIte, reduceCtorEq, Int.reduceBEq, Int.reduceBNe, Int.reduceLT, Int.reduceLE, Int.reduceGT, Int.reduceGE, Int.reduceNeg, Int.reduceAdd, Int.reduceSub, Nat.reduceMul, Nat.reduceLT, Int.reduceToNat, x_seq, x_ops, x_draw, x_block, x_condQ, x_ret, x_skip, xc_true, xc_false, xt_normal, xt_ret, xb_normal, xp_ret, p1, p2, p3, p4, hxl, hx.one, hx.cells, hlen, e2, e3, e4, e5, e6, Nat.add_assoc, afill, anat, Option.map_none, Int.toNat_natCast, hnn, hsl, happ]
      have hab : Tm.AllL TmB (ks ++ [t]) := allL_snoc hkb htb
      have hll : (ks ++ [t]).length = ks.length + 1 := by simp
      refine i_callA (fs := []) (cs := []) (fid := 90) ?_ ?_ (SCall.gives (b := H.next + 4) (l := l) ?_ (.cons (.slc 0 6 (ks.length + 1) (ks.length + 1) false l (by simp) (by simp)) .nil) (ask_ok (ks ++ [t]) hab _ l (.inr ⟨_, _, by rw [hll], by omega⟩) hX.rel (by omega) _)) ?_
      · rfl
      · simp -implicitDefEqProofs only [go_sem, Nat.reduceEqDiff, Nat.reduceAdd, Nat.reduceLeDiff, ↓reduceIte, reduceCtorEq, Int.reduceBEq, Int.reduceBNe, Int.reduceLT, Int.reduceLE, Int.reduceGT, Int.reduceGE, Int.reduceNeg, Int.reduceAdd, Int.reduceSub, Nat.reduceMul, Nat.reduceLT, Int.reduceToNat]
      · simp -implicitDefEqProofs only [go_sem, Nat.reduceEqDiff, Nat.reduceAdd, Nat.reduceLeDiff, ↓reduceIte, reduceCtorEq, Int.reduceBEq, Int.reduceBNe, Int.reduceLT, Int.reduceLE, Int.reduceGT, Int.reduceGE, Int.reduceNeg, Int.reduceAdd, Int.reduceSub, Nat.reduceMul, Nat.reduceLT, Int.reduceToNat, Nat.add_assoc]
      rintro r G1 ⟨rfl, hHH⟩
      have hHH := hHH.symm
      subst hHH
      have hEa : Ext H (((((H.new (.cells [aint f])).new (.cells [aint t.form, aint t.n, abl t.hid, .v (.string t.name), lx, kx])).new (.cells z6)).new (.cells [aint t.form, aint t.n, abl t.hid, .v (.string t.name), lx, kx])).new (.cells l) |>.kill (H.next + 4)) := ((((((Ext.refl H).new _).new _).new _).new _).new _).kill (by omega)
      by_cases hask : askF (ks ++ [t]) = 0
      case neg =>
        simp -implicitDefEqProofs only [go_sem, Nat.reduceEqDiff, Nat.reduceAdd, Nat.reduceLeDiff, ↓reduceIte, reduceCtorEq, Int.reduceBEq, Int.reduceBNe, Int.reduceLT, Int.reduceLE, Int.reduceGT, Int.reduceGE, Int.reduceNeg, Int.reduceAdd, Int.reduceSub, Nat.reduceMul, Nat.reduceLT, Int.reduceToNat, x_seq, x_ops, x_draw, x_block, x_condQ, x_ret, x_skip, xc_true, xc_false, xt_normal, xt_ret, xb_normal, xp_ret, bne' hask, kill_get, e2, e3, e4, e5, e6, Nat.add_assoc, afill]
        exact ⟨hEa.set (by omega) _, _, _, zeroTm, rfl, tmp_zero, fun h => absurd h.2.1 hask, fun h => absurd h hask⟩
      rw [hask]
      simp -implicitDefEqProofs only [go_sem, Nat.reduceEqDiff, Nat.reduceAdd, Nat.reduceLeDiff, ↓reduceIte, reduceCtorEq, Int.reduceBEq, Int.reduceBNe, Int.reduceLT, Int.reduceLE, Int.reduceGT, Int.reduceGE, Int.reduceNeg, Int.reduceAdd, Int.reduceSub, Nat.reduceMul, Nat.reduceLT, Int.reduceToNat, x_seq, x_ops, x_draw, x_block, x_condQ, x_ret, x_skip, xc_true, xc_false, xt_normal, xt_ret, xb_normal, xp_ret, kill_get, e2, e3, e4, e5, e6, Nat.add_assoc, afill]
      have hnx : ((((((H.new (.cells [aint f])).new (.cells [aint t.form, aint t.n, abl t.hid, .v (.string t.name), lx, kx])).new (.cells z6)).new (.cells [aint t.form, aint t.n, abl t.hid, .v (.string t.name), lx, kx])).new (.cells l)).kill (H.next + 4)).next = H.next + 5 := rfl
      have g0 : ((((((H.new (.cells [aint f])).new (.cells [aint t.form, aint t.n, abl t.hid, .v (.string t.name), lx, kx])).new (.cells z6)).new (.cells [aint t.form, aint t.n, abl t.hid, .v (.string t.name), lx, kx])).new (.cells l)).kill (H.next + 4)).get H.next = some (.cells [aint f]) := by
        simp -implicitDefEqProofs only [go_sem, Nat.reduceEqDiff, Nat.reduceAdd, Nat.reduceLeDiff, ↓reduceIte, reduceCtorEq, Int.reduceBEq, Int.reduceBNe, Int.reduceLT, Int.reduceLE, Int.reduceGT, Int.reduceGE, Int.reduceNeg, Int.reduceAdd, Int.reduceSub, Nat.reduceMul, Nat.reduceLT, Int.reduceToNat, kill_get, e2, e3, e4, e5, e6, Nat.add_assoc]
      have g1 : ((((((H.new (.cells [aint f])).new (.cells [aint t.form, aint t.n, abl t.hid, .v (.string t.name), lx, kx])).new (.cells z6)).new (.cells [aint t.form, aint t.n, abl t.hid, .v (.string t.name), lx, kx])).new (.cells l)).kill (H.next + 4)).get (H.next + 1) = some (.cells [aint t.form, aint t.n, abl t.hid, .v (.string t.name), lx, kx]) := by
        simp -implicitDefEqProofs only [go_sem, Nat.reduceEqDiff, Nat.reduceAdd, Nat.reduceLeDiff, ↓reduceIte, reduceCtorEq, Int.reduceBEq, Int.reduceBNe, Int.reduceLT, Int.reduceLE, Int.reduceGT, Int.reduceGE, Int.reduceNeg, Int.reduceAdd, Int.reduceSub, Nat.reduceMul, Nat.reduceLT, Int.reduceToNat, kill_get, e2, e3, e4, e5, e6, Nat.add_assoc]
      have g2 : ((((((H.new (.cells [aint f])).new (.cells [aint t.form, aint t.n, abl t.hid, .v (.string t.name), lx, kx])).new (.cells z6)).new (.cells [aint t.form, aint t.n, abl t.hid, .v (.string t.name), lx, kx])).new (.cells l)).kill (H.next + 4)).get (H.next + 2) = some (.cells z6) := by
        simp -implicitDefEqProofs only [go_sem, Nat.reduceEqDiff, Nat.reduceAdd, Nat.reduceLeDiff, ↓reduceIte, reduceCtorEq, Int.reduceBEq, Int.reduceBNe, Int.reduceLT, Int.reduceLE, Int.reduceGT, Int.reduceGE, Int.reduceNeg, Int.reduceAdd, Int.reduceSub, Nat.reduceMul, Nat.reduceLT, Int.reduceToNat, kill_get, e2, e3, e4, e5, e6, Nat.add_assoc]
      generalize ((((((H.new (.cells [aint f])).new (.cells [aint t.form, aint t.n, abl t.hid, .v (.string t.name), lx, kx])).new (.cells z6)).new (.cells [aint t.form, aint t.n, abl t.hid, .v (.string t.name), lx, kx])).new (.cells l)).kill (H.next + 4)) = G1 at *
      refine i_callA (fs := []) (cs := []) (fid := 91) ?_ ?_ (hidF_ok y hy.one hy.cells G1) ?_
      · rfl
      · simp -implicitDefEqProofs only [go_sem, Nat.reduceEqDiff, Nat.reduceAdd, Nat.reduceLeDiff, ↓reduceIte, reduceCtorEq, Int.reduceBEq, Int.reduceBNe, Int.reduceLT, Int.reduceLE, Int.reduceGT, Int.reduceGE, Int.reduceNeg, Int.reduceAdd, Int.reduceSub, Nat.reduceMul, Nat.reduceLT, Int.reduceToNat]
      rintro r G2 ⟨rfl, rfl⟩
      simp -implicitDefEqProofs only [go_sem, Nat.reduceEqDiff, Nat.reduceAdd, Nat.reduceLeDiff, ↓reduceIte, reduceCtorEq, Int.reduceBEq, Int.reduceBNe, Int.reduceLT, Int.reduceLE, Int.reduceGT, Int.reduceGE, Int.reduceNeg, Int.reduceAdd, Int.reduceSub, Nat.reduceMul, Nat.reduceLT, Int.reduceToNat, x_seq, x_ops, x_draw, x_block, x_condQ, x_ret, x_skip, xc_true, xc_false, xt_normal, xt_ret, xb_normal, xp_ret, hnx, Nat.add_assoc]
      refine i_callA (fs := []) (cs := []) (fid := 135) ?_ ?_ (inwards_ok x hx.one hx.cells _) ?_
      · rfl
      · simp -implicitDefEqProofs only [go_sem, Nat.reduceEqDiff, Nat.reduceAdd, Nat.reduceLeDiff, ↓reduceIte, reduceCtorEq, Int.reduceBEq, Int.reduceBNe, Int.reduceLT, Int.reduceLE, Int.reduceGT, Int.reduceGE, Int.reduceNeg, Int.reduceAdd, Int.reduceSub, Nat.reduceMul, Nat.reduceLT, Int.reduceToNat]
      rintro r G2 ⟨rfl, rfl⟩
      simp -implicitDefEqProofs only [go_sem, Nat.reduceEqDiff, Nat.reduceAdd, Nat.reduceLeDiff, ↓reduceIte, reduceCtorEq, Int.reduceBEq, Int.reduceBNe, Int.reduceLT, Int.reduceLE, Int.reduceGT, Int.reduceGE, Int.reduceNeg, Int.reduceAdd, Int.reduceSub, Nat.reduceMul, Nat.reduceLT, Int.reduceToNat, x_seq, x_ops, x_draw, x_block, x_condQ, x_ret, x_skip, xc_true, xc_false, xt_normal, xt_ret, xb_normal, xp_ret, hnx, Nat.add_assoc]
      refine bind_loop (H0 := H) (n := H.next) (f := f) (Nat.le_refl _) hx hy (by omega) _ _ ?_ ?_ ?_ ?_ (((hEa.new _).new _).set (by omega) _ |>.new _) ?_ ?_ ⟨_, ?_, hT⟩ ?_ ?_ ?_ ?_ ?_
      · simp -implicitDefEqProofs only [go_sem, Nat.reduceEqDiff, Nat.reduceAdd, Nat.reduceLeDiff, ↓reduceIte, reduceCtorEq, Int.reduceBEq, Int.reduceBNe, Int.reduceLT, Int.reduceLE, Int.reduceGT, Int.reduceGE, Int.reduceNeg, Int.reduceAdd, Int.reduceSub, Nat.reduceMul, Nat.reduceLT, Int.reduceToNat]
      · simp -implicitDefEqProofs only [go_sem, Nat.reduceEqDiff, Nat.reduceAdd, Nat.reduceLeDiff, ↓reduceIte, reduceCtorEq, Int.reduceBEq, Int.reduceBNe, Int.reduceLT, Int.reduceLE, Int.reduceGT, Int.reduceGE, Int.reduceNeg, Int.reduceAdd, Int.reduceSub, Nat.reduceMul, Nat.reduceLT, Int.reduceToNat]
      · simp -implicitDefEqProofs only [go_sem, Nat.reduceEqDiff, Nat.reduceAdd, Nat.reduceLeDiff, ↓reduceIte, reduceCtorEq, Int.reduceBEq, Int.reduceBNe, Int.reduceLT, Int.reduceLE, Int.reduceGT, Int.reduceGE, Int.reduceNeg, Int.reduceAdd, Int.reduceSub, Nat.reduceMul, Nat.reduceLT, Int.reduceToNat]
      · simp -implicitDefEqProofs only [go_sem, Nat.reduceEqDiff, Nat.reduceAdd, Nat.reduceLeDiff, ↓reduceIte, reduceCtorEq, Int.reduceBEq, Int.reduceBNe, Int.reduceLT, Int.reduceLE, Int.reduceGT, Int.reduceGE, Int.reduceNeg, Int.reduceAdd, Int.reduceSub, Nat.reduceMul, Nat.reduceLT, Int.reduceToNat]
      · simp -implicitDefEqProofs only [go_sem, Nat.reduceEqDiff, Nat.reduceAdd, Nat.reduceLeDiff, ↓reduceIte, reduceCtorEq, Int.reduceBEq, Int.reduceBNe, Int.reduceLT, Int.reduceLE, Int.reduceGT, Int.reduceGE, Int.reduceNeg, Int.reduceAdd, Int.reduceSub, Nat.reduceMul, Nat.reduceLT, Int.reduceToNat, hnx, Nat.add_assoc]
      · simp -implicitDefEqProofs only [go_sem, Nat.reduceEqDiff, Nat.reduceAdd, Nat.reduceLeDiff, ↓reduceIte, reduceCtorEq, Int.reduceBEq, Int.reduceBNe, Int.reduceLT, Int.reduceLE, Int.reduceGT, Int.reduceGE, Int.reduceNeg, Int.reduceAdd, Int.reduceSub, Nat.reduceMul, Nat.reduceLT, Int.reduceToNat, hnx, Nat.add_assoc, e2, e3, e4, e5, e6, e7, e8, e10, g0]
      · simp -implicitDefEqProofs only [go_sem, Nat.reduceEqDiff, Nat.reduceAdd, Nat.reduceLeDiff, ↓reduceIte, reduceCtorEq, Int.reduceBEq, Int.reduceBNe, Int.reduceLT, Int.reduceLE, Int.reduceGT, Int.reduceGE, Int.reduceNeg, Int.reduceAdd, Int.reduceSub, Nat.reduceMul, Nat.reduceLT, Int.reduceToNat, hnx, Nat.add_assoc, e2, e3, e4, e5, e6, e7, e8, g1]
      · simp -implicitDefEqProofs only [go_sem, Nat.reduceEqDiff, Nat.reduceAdd, Nat.reduceLeDiff, ↓reduceIte, reduceCtorEq, Int.reduceBEq, Int.reduceBNe, Int.reduceLT, Int.reduceLE, Int.reduceGT, Int.reduceGE, Int.reduceNeg, Int.reduceAdd, Int.reduceSub, Nat.reduceMul, Nat.reduceLT, Int.reduceToNat, hnx, Nat.add_assoc, e2, e3, e4, e5, e6, e7, e8, g2]
      · simp -implicitDefEqProofs only [go_sem, Nat.reduceEqDiff, Nat.reduceAdd, Nat.reduceLeDiff, ↓reduceIte, reduceCtorEq, Int.reduceBEq, Int.reduceBNe, Int.reduceLT, Int.reduceLE, Int.reduceGT, Int.reduceGE, Int.reduceNeg, Int.reduceAdd, Int.reduceSub, Nat.reduceMul, Nat.reduceLT, Int.reduceToNat, hnx, Nat.add_assoc, e2, e3, e4, e5, e6, e7, e8]
      · simp -implicitDefEqProofs only [go_sem, Nat.reduceEqDiff, Nat.reduceAdd, Nat.reduceLeDiff, ↓reduceIte, reduceCtorEq, Int.reduceBEq, Int.reduceBNe, Int.reduceLT, Int.reduceLE, Int.reduceGT, Int.reduceGE, Int.reduceNeg, Int.reduceAdd, Int.reduceSub, Nat.reduceMul, Nat.reduceLT, Int.reduceToNat, hnx, Nat.add_assoc, e2, e3, e4, e5, e6, e7, e8]
      · simp -implicitDefEqProofs only [go_sem, Nat.reduceEqDiff, Nat.reduceAdd, Nat.reduceLeDiff, ↓reduceIte, reduceCtorEq, Int.reduceBEq, Int.reduceBNe, Int.reduceLT, Int.reduceLE, Int.reduceGT, Int.reduceGE, Int.reduceNeg, Int.reduceAdd, Int.reduceSub, Nat.reduceMul, Nat.reduceLT, Int.reduceToNat, hnx, Nat.add_assoc, e2, e3, e4, e5, e6, e7, e8]
      rintro G2 ⟨hE2, hn2, g0', ⟨d, g1', hd⟩, g2', g5', g6', g7', g8'⟩
      rw [List.drop_zero] at hd
      have htel : Tm.All TmB (telT f hs 0 ks t) := telT_b hfr hkb htb
      generalize hTt : telT f hs 0 ks t = tel at *
      obtain ⟨ly, ky, hd6, q1, q2, q3, q4, q5, q6, q7, q8⟩ := hd.six
      subst hd6
      simp -implicitDefEqProofs only [go_sem, Nat.reduceEqDiff, Nat.reduceAdd, Nat.reduceLeDiff, ↓reduceIte, reduceCtorEq, Int.reduceBEq, Int.reduceBNe, Int.reduceLT, Int.reduceLE, Int.reduceGT, Int.reduceGE, Int.reduceNeg, Int.reduceAdd, Int.reduceSub, Nat.reduceMul, Nat.reduceLT, Int.reduceToNat, x_seq, x_ops, x_draw, x_block, x_condQ, x_ret, x_skip, xc_true, xc_false, xt_normal, xt_ret, xb_normal, xp_ret, Nat.add_assoc, e2, e3, e4, e5, e6, e7, e8, e9, g1', g2', q1, q2, q3, q4]
      refine i_callA (fs := []) (cs := []) (fid := 24) ?_ ?_ (check_ok canF tel (tmb_fine htel) _ hd.1 _) ?_
      · rfl
      · simp -implicitDefEqProofs only [go_sem, Nat.reduceEqDiff, Nat.reduceAdd, Nat.reduceLeDiff, ↓reduceIte, reduceCtorEq, Int.reduceBEq, Int.reduceBNe, Int.reduceLT, Int.reduceLE, Int.reduceGT, Int.reduceGE, Int.reduceNeg, Int.reduceAdd, Int.reduceSub, Nat.reduceMul, Nat.reduceLT, Int.reduceToNat]
      rintro r G3 ⟨rfl, hHH⟩
      have hHH := hHH.symm
      subst hHH
      by_cases hch : checkF canF tel = 0
      case neg =>
        simp -implicitDefEqProofs only [go_sem, Nat.reduceEqDiff, Nat.reduceAdd, Nat.reduceLeDiff, ↓reduceIte, reduceCtorEq, Int.reduceBEq, Int.reduceBNe, Int.reduceLT, Int.reduceLE, Int.reduceGT, Int.reduceGE, Int.reduceNeg, Int.reduceAdd, Int.reduceSub, Nat.reduceMul, Nat.reduceLT, Int.reduceToNat, x_seq, x_ops, x_draw, x_block, x_condQ, x_ret, x_skip, xc_true, xc_false, xt_normal, xt_ret, xb_normal, xp_ret, bne' hch, kill_get, e2, e3, e4, e5, e6, e7, e8, e9, Nat.add_assoc, afill, g1', g2', q1, q2, q3, q4]
        exact ⟨(hE2.set (by omega) _).set (by omega) _, _, _, zeroTm, rfl, tmp_zero, fun h => absurd (by rw [← hTt]; exact h.2.2) hch, fun h => absurd h hch⟩
      rw [hch]
      simp -implicitDefEqProofs only [go_sem, Nat.reduceEqDiff, Nat.reduceAdd, Nat.reduceLeDiff, ↓reduceIte, reduceCtorEq, Int.reduceBEq, Int.reduceBNe, Int.reduceLT, Int.reduceLE, Int.reduceGT, Int.reduceGE, Int.reduceNeg, Int.reduceAdd, Int.reduceSub, Nat.reduceMul, Nat.reduceLT, Int.reduceToNat, x_seq, x_ops, x_draw, x_block, x_condQ, x_ret, x_skip, xc_true, xc_false, xt_normal, xt_ret, xb_normal, xp_ret, kill_get, e2, e3, e4, e5, e6, e7, e8, e9, Nat.add_assoc, afill, g1', g2', q1, q2, q3, q4]
      obtain ⟨hz1, hz2⟩ := check_sz hch
      refine i_callA (fs := []) (cs := []) (fid := 76) ?_ ?_ (copy_ok tel htel (by omega) (by omega) _ hd _) ?_
      · rfl
      · simp -implicitDefEqProofs only [go_sem, Nat.reduceEqDiff, Nat.reduceAdd, Nat.reduceLeDiff, ↓reduceIte, reduceCtorEq, Int.reduceBEq, Int.reduceBNe, Int.reduceLT, Int.reduceLE, Int.reduceGT, Int.reduceGE, Int.reduceNeg, Int.reduceAdd, Int.reduceSub, Nat.reduceMul, Nat.reduceLT, Int.reduceToNat]
      rintro r G3 ⟨⟨xc, rfl, hxc⟩, hHH⟩
      have hHH := hHH.symm
      subst hHH
      obtain ⟨az, bz, hk5, u1, u2, u3, u4, u5, u6, u7, u8⟩ := hxc.six
      subst hk5
      simp -implicitDefEqProofs only [go_sem, Nat.reduceEqDiff, Nat.reduceAdd, Nat.reduceLeDiff, ↓reduceIte, reduceCtorEq, Int.reduceBEq, Int.reduceBNe, Int.reduceLT, Int.reduceLE, Int.reduceGT, Int.reduceGE, Int.reduceNeg, Int.reduceAdd, Int.reduceSub, Nat.reduceMul, Nat.reduceLT, Int.reduceToNat, x_seq, x_ops, x_draw, x_block, x_condQ, x_ret, x_skip, xc_true, xc_false, xt_normal, xt_ret, xb_normal, xp_ret, kill_get, e2, e3, e4, e5, e6, e7, e8, e9, Nat.add_assoc, afill, g1', g2', u1, u2, u3, u4]
      exact ⟨(hE2.set (by omega) _).set (by omega) _, _, 0, _, rfl, hxc, fun _ => rfl, fun _ => ⟨hn60, hask, by rw [hTt]; exact hch, by rw [hTt]⟩⟩
  · rintro _ _ r H' ⟨hE, c, e, u, rfl, hc, h1, h2⟩ _
    exact ⟨hE, _, .keep _ (hold hc e), c, e, u, rfl, hc, h1, h2⟩
end Go.Proofs.Ytooaiddfokbffaa.E

/- The law TeleSpine, walked. Conditions: none. -/
set_option linter.unusedVariables false
set_option linter.unusedSimpArgs false
namespace Go.Proofs.Ytooaiddfokbffaa.E
open Go Go.Proofs

theorem tmbv0 : Tm.All TmB (varTm 0) := by
  simp [varTm, Tm.All, Tm.AllL, TmB, Tm.form, Tm.n, Tm.hid, Tm.name, Tm.lv, Tm.kids, Rng, zeroS, LvB]
  decide
theorem rng3 : Rng 3 := by simp [Rng]
theorem piEx_clean : cleanT piEx = piEx := rfl
theorem piEx_ask : askF ([set0, varTm 0] ++ [varTm 1]) = 0 := by decide

theorem bindEx : BindEx := by
  intro b k0 k1 H h0 h1 hg hb
  have hX : KsX [set0, varTm 0] (k0 ++ k1) := by
    have := KsX.snoc (KsX.snoc (ks := []) (cs := []) rfl h0) h1
    simpa using this
  have hR : RowAt [set0, varTm 0] (.slc b 0 6 2 2 true) H := RowAt.own (ks := [set0, varTm 0]) hg hb hX (by simp)
  refine (bind_ok 3 [] [set0, varTm 0] (varTm 1) rng3 ⟨tmb0, tmbv0, trivial⟩ tmb1 (by simp) _ nils _ H hR (.inl ⟨rfl, rfl⟩) (tmp_var 1)).mono ?_
  rintro r H' ⟨⟨c, e, u, rfl, hc, k1, k2⟩, rfl⟩
  have he := k1 ⟨by simp, piEx_ask, by rw [piEx_tel]; exact piEx_check⟩
  subst he
  obtain ⟨_, _, _, hu⟩ := k2 rfl
  rw [piEx_tel, piEx_clean] at hu
  subst hu
  exact ⟨⟨c, rfl, hc⟩, rfl⟩

theorem aliveSp (H : AHeap) : SCall Try.prog 28 [] H fun x H' => x = abl true ∧ H' = H := aliveSp_of bindEx H

theorem law_spine (t : Tm) (ht : Tm.All TmB t) (tc : List AV) (hT : TmR t tc) (ot : ∀ y ∈ tc, Old 0 y) (H : AHeap) :
    SCall Try.prog 5 [.agg tc] H fun x H' => x = abl true ∧ H' = H := law_spine_of aliveSp t ht tc hT ot H
end Go.Proofs.Ytooaiddfokbffaa.E
