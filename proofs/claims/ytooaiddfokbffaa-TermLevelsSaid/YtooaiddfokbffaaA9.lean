/- The row TermLevels: whatever the input, the law answers true. Conditions: none. -/
import Derived.Test.YtooaiddfokbffaaA8
import Derived.Test.YtooaiddfokbffaaRows
import Derived.WalkKit
import Derived.ProofKit
import Derived.OpenShut
import Derived.ShutString
import Derived.ChangeOld
import Derived.Below
import Derived.SizedLaws
import Derived.Carry
/- The reference's Levels. Conditions: none. -/
set_option linter.unusedVariables false
set_option linter.unusedSimpArgs false
namespace Go.Proofs.Ytooaiddfokbffaa.E
open Go Go.Proofs
attribute [local go_sem] s_seq s_ops s_draw s_block s_skip s_ret s_exit i_nil i_cons i_run i_runG s_condQ c_true c_false aop ev_t ev_c updO_at updO_no upd_at t_normal t_ret t_exit b_normal b_ret b_exit a_some ac_v ac_agg ac_ptr ac_slc ac_ro ac_rop ac_fn new_next set_next argTm_zero argTm_succ argTm_nil ab_bool ab_uv beq_self_eq_true Option.some_beq_some Bool.not_not beq_iff_eq decide_true decide_false Bool.not_true Bool.not_false afld aload astore apack alen_str alen_ro alen_slc alen_nil new_get set_get ite_true ite_false Option.map_some Option.bind_some ibin isShift Nat.add_zero Nat.zero_add List.length_cons List.length_nil List.drop_zero List.drop_succ_cons List.take_succ_cons List.take_zero if_true if_false setL List.set_cons_zero List.set_cons_succ List.all_cons List.all_nil one_int one_bool one_str one_nil one_ptr one_slc one_ro one_rop one_fn Bool.and_self Bool.and_true true_and and_true and_self Bool.false_eq_true post_ret post_normal resAll resOne packR Option.some.injEq exists_eq_left' List.map_cons List.map_nil List.nil_append List.append_nil List.cons_append d_nil d_cons k_nil k_cons g_op g_same g_new avBlock forall_eq' List.getElem?_cons_succ List.getElem?_cons_zero List.getElem?_nil okind gOk bne false_imp_iff forall_const imp_self implies_true true_imp_iff i_callG

theorem badK_13 (args : List Lv) : ∀ lv, badK args 13 lv = 13
  | [] => rfl
  | l :: r => by
    rw [badK, List.foldl_cons, if_neg (by omega)]
    exact badK_13 args r
theorem badK_all (args : List Lv) : ∀ lv, badK args 0 lv = 0 ↔ ∀ l ∈ lv, (SubLF l args).2 = 0
  | [] => by simp [badK]
  | l :: r => by
    by_cases h : (SubLF l args).2 = 0
    · rw [badK, List.foldl_cons, if_neg (fun hh => hh.1 h)]
      refine (badK_all args r).trans ?_
      simp [h]
    · have h13 : (SubLF l args).2 = 13 := by
        rcases sub_err l args with ⟨h1, _⟩ | h1
        · exact absurd h1 h
        · rw [h1]
      rw [badK, List.foldl_cons, if_pos ⟨h, rfl⟩, h13]
      have := badK_13 args r
      rw [badK] at this
      rw [this]
      simp [h]

mutual
def okR (args : List Lv) : Tm → Bool
  | .mk f n h s lv ks => (if f = 2 ∨ f = 10 then badK args 0 lv == 0 else true) && okRs args ks
def okRs (args : List Lv) : List Tm → Bool
  | [] => true
  | k :: r => okR args k && okRs args r
end
mutual
def rvT (args : List Lv) : Tm → Tm
  | .mk f n h s lv ks => .mk f n h s (if f = 2 ∨ f = 10 then subM args lv else lv) (rvKs args ks)
def rvKs (args : List Lv) : List Tm → List Tm
  | [] => []
  | k :: r => rvT args k :: rvKs args r
end
theorem rvKs_len (args : List Lv) : ∀ ks, (rvKs args ks).length = ks.length
  | [] => rfl
  | k :: r => by simp [rvKs, rvKs_len args r]
theorem rvKs_take (args : List Lv) : ∀ (ks : List Tm) (i : Nat) (hi : i < ks.length), rvKs args (ks.take (i + 1)) = rvKs args (ks.take i) ++ [rvT args ks[i]]
  | k :: r, 0, _ => rfl
  | k :: r, i + 1, hi => by
    simp only [List.take_succ_cons, rvKs, List.cons_append, List.getElem_cons_succ]
    rw [rvKs_take args r i (by simpa using hi)]

/-- A part with levels has no parts. -/
def Nk (t : Tm) : Prop := t.form = 2 ∨ t.form = 10 → t.kids = []
mutual
theorem ok_same (args : List Lv) : ∀ t, Tm.All Nk t → okR args t = okT args t
  | .mk f n h s lv ks, ha => by
    simp only [Tm.All, Nk, Tm.form, Tm.kids] at ha
    rw [okR, okT]
    by_cases hf : f = 2 ∨ f = 10
    · rw [if_pos hf, if_pos hf, ha.1 hf]; simp [okRs]
    · rw [if_neg hf, if_neg hf, Bool.true_and, ok_sameK args ks ha.2]
theorem ok_sameK (args : List Lv) : ∀ ks, Tm.AllL Nk ks → okRs args ks = okKs args ks
  | [], _ => rfl
  | k :: r, ha => by
    simp only [Tm.AllL] at ha
    rw [okRs, okKs, ok_same args k ha.1, ok_sameK args r ha.2]
end
mutual
theorem clean_rv (args : List Lv) : ∀ t, Tm.All Nk t → cleanT (rvT args t) = lvT args t
  | .mk f n h s lv ks, ha => by
    simp only [Tm.All, Nk, Tm.form, Tm.kids] at ha
    rw [rvT, cleanT, lvT, clean_rvK args ks ha.2]
    by_cases hf : f = 2 ∨ f = 10
    · rw [if_pos hf, if_pos hf, ha.1 hf]
      rcases hf with rfl | rfl <;> rfl
    · rw [if_neg hf, if_neg hf]
      rfl
theorem clean_rvK (args : List Lv) : ∀ ks, Tm.AllL Nk ks → cleanK (rvKs args ks) = lvKs args ks
  | [], _ => rfl
  | k :: r, ha => by
    simp only [Tm.AllL] at ha
    rw [rvKs, cleanK, lvKs, clean_rv args k ha.1, clean_rvK args r ha.2]
end
mutual
theorem clean_lv (args : List Lv) : ∀ t, cleanT (lvT args t) = lvT args t
  | .mk f n h s lv ks => by
    rw [lvT]
    by_cases hf : f = 2 ∨ f = 10
    · rw [if_pos hf]
      rcases hf with rfl | rfl <;> rfl
    · rw [if_neg hf, clean_bare, clean_lvK args ks]
theorem clean_lvK (args : List Lv) : ∀ ks, cleanK (lvKs args ks) = lvKs args ks
  | [] => rfl
  | k :: r => by rw [lvKs, cleanK, clean_lv args k, clean_lvK args r]
end
theorem form_nk (r : Lv → Bool) : ∀ t, allF (formF r) t = true → Tm.All Nk t := by
  refine Tm.rule fun f n hd s lv ks ih h => ?_
  simp only [allF, Bool.and_eq_true] at h
  obtain ⟨h1, h2⟩ := h
  simp only [Tm.All]
  refine ⟨fun hf => ?_, ?_⟩
  · have hk : kidsF f = (ks.length : Int) := by
      rcases Classical.em (kidsF f = (ks.length : Int)) with h' | h'
      · exact h'
      · unfold formF at h1
        rw [if_pos (by exact h')] at h1
        cases h1
    have hz : ks.length = 0 := by
      rcases hf with hf | hf
      · have hf : f = 2 := hf
        subst hf
        have : kidsF 2 = 0 := by decide
        omega
      · have hf : f = 10 := hf
        subst hf
        have : kidsF 10 = 0 := by decide
        omega
    exact List.length_eq_zero_iff.1 hz
  · have key : ∀ ks', (∀ k ∈ ks', k ∈ ks) → allK (formF r) ks' = true → Tm.AllL Nk ks' := by
      intro ks'
      induction ks' with
      | nil => intro _ _; trivial
      | cons k q ih' =>
        intro hm h
        simp only [allK, Bool.and_eq_true] at h
        exact ⟨ih k (hm k (List.mem_cons_self ..)) h.1, ih' (fun k hk => hm k (List.mem_cons_of_mem _ hk)) h.2⟩
    exact key ks (fun _ h => h) h2

/-- An answer that may be none. -/
def TmO (ok : Bool) (t : Tm) (x : AV) : Prop := ∃ c, x = .tup [.agg c, abl ok] ∧ TmP (if ok = true then t else zeroTm) c
theorem TmO.old {ok : Bool} {t : Tm} {x : AV} (h : TmO ok t x) (n : Nat) : Old n x := by
  obtain ⟨c, rfl, hc⟩ := h
  exact .tup _ fun y hy => by
    simp at hy
    rcases hy with rfl | rfl
    · exact .agg _ fun z hz => (hc.2 z hz).mono (Nat.zero_le _)
    · exact .v _

theorem tmb_rvT (args : List Lv) : ∀ t, Tm.All TmB t → Tm.All TmB (rvT args t) := by
  refine Tm.rule fun f n hd s lv ks ih ha => ?_
  simp only [Tm.All] at ha
  rw [rvT]
  have h1 := ha.1
  simp only [TmB, Tm.form, Tm.n, Tm.name, Tm.lv, Tm.kids] at h1
  simp only [Tm.All]
  refine ⟨⟨h1.1, h1.2.1, h1.2.2.1, ?_, by show (rvKs args ks).length * 88 ≤ _; rw [rvKs_len]; exact h1.2.2.2.2.1, ?_⟩, ?_⟩
  · simp only [Tm.lv]
    split
    · simp only [subM, List.length_map]; exact h1.2.2.2.1
    · exact h1.2.2.2.1
  · simp only [Tm.lv]
    split
    · exact subM_lvb args lv
    · exact h1.2.2.2.2.2
  have key : ∀ ks', (∀ k ∈ ks', k ∈ ks) → Tm.AllL TmB (rvKs args ks') := by
    intro ks'
    induction ks' with
    | nil => intro _; trivial
    | cons k r ih' => intro hm; exact ⟨ih k (hm k (List.mem_cons_self ..)) (ha.2.mem k (hm k (List.mem_cons_self ..))), ih' fun k hk => hm k (List.mem_cons_of_mem _ hk)⟩
  exact key ks fun _ h => h

/-- A row of levels, an old one or one of one's own. -/
def LP (H : AHeap) (lo hi : Nat) (lv : List Lv) (x : AV) : Prop := SlL lv x ∨ LvH H lo hi lv x
theorem LP.one {H : AHeap} {lo hi : Nat} {lv : List Lv} {x : AV} (h : LP H lo hi lv x) : x.one = true := by
  rcases h with ⟨⟨cs, h, _⟩, _⟩ | h | ⟨b, cs, _, _, rfl, _⟩
  · exact h.one
  · rw [h.2]; rfl
  · rfl
theorem LP.cells {H : AHeap} {lo hi : Nat} {lv : List Lv} {x : AV} (h : LP H lo hi lv x) : x.acells = [x] := by
  rcases h with ⟨⟨cs, h, _⟩, _⟩ | h | ⟨b, cs, _, _, rfl, _⟩
  · exact h.cells
  · rw [h.2]; rfl
  · rfl
theorem LP.frame {H G : AHeap} {lo hi : Nat} {lv : List Lv} {x : AV} (h : LP H lo hi lv x) (hf : ∀ b, lo ≤ b → b < hi → G.get b = H.get b) : LP G lo hi lv x := by
  rcases h with h | h | ⟨b, cs, g1, g2, g3, g4, g5⟩
  · exact .inl h
  · exact .inr (.inl h)
  · exact .inr (.inr ⟨b, cs, g1, g2, g3, by rw [hf b g1 g2]; exact g4, g5⟩)
theorem LP.frz {H : AHeap} {lo hi N : Nat} {lv : List Lv} {x : AV} (h : LP H lo hi lv x) (hN : N ≤ lo) : ∃ z, FrzN N H x z ∧ SlL lv z := by
  rcases h with h | ⟨h0, rfl⟩ | ⟨b, cs, g1, g2, rfl, g4, g5⟩
  · exact ⟨x, .keep _ (h.2.mono (Nat.zero_le _)), h⟩
  · rw [List.length_eq_zero_iff.1 h0]; exact ⟨nils, .keep _ (.v _), sll_nil⟩
  · refine ⟨.ro lv.length lv.length false cs, .slc b 0 2 _ _ _ _ _ g4 (by omega) (by omega) (fun i x y hx hy => ?_), SlL.of g5 (.inr ⟨_, _, rfl, Nat.le_refl _⟩)⟩
    rw [Nat.zero_add] at hx
    rw [hx] at hy
    injection hy with hy
    subst hy
    exact .keep _ ((g5.old x (List.mem_of_getElem? hx)).mono (Nat.zero_le _))
theorem lp_of {H : AHeap} {base hi : Nat} {lv : List Lv} {x : AV} {l : List AV} (hO : OutS H base 2 lv.length l x) (hX : LvsX lv l) (hh : H.next ≤ hi) : LP H base hi lv x := by
  rcases hO with ⟨h0, _, rfl⟩ | ⟨b, g1, g2, g3, g4, g5⟩
  · exact .inr (.inl ⟨h0, rfl⟩)
  · exact .inr (.inr ⟨b, l, g1, by omega, g3, g4, hX⟩)

set_option maxRecDepth 100000 in
theorem rv_ok (args : List Lv) (ax : AV) (as' : List AV) (ha1 : SlR args.length ax as') (ha2 : LvsR args as') (hal : args.length ≤ 4611686018427387904) (hav : ∀ a ∈ args, a.vars.length ≤ 4611686018427387904) :
    ∀ t, Tm.All TmB t → ∀ (cells : List AV), TmP t cells → ∀ (H : AHeap), SCall Try.prog 107 [.agg cells, ax] H fun x H' => TmO (okR args t) (rvT args t) x ∧ H' = H := by
  refine Tm.rule fun f n hid s lv ks ih ha cells hT H => ?_
  have hT' := hT
  have hTc := hT.1
  obtain ⟨lx, kx, ls, cs, rfl, hl1, hl2, hk1, hk2⟩ := hTc.six
  simp only [Tm.All, Tm.form, Tm.n, Tm.hid, Tm.name, Tm.lv, Tm.kids] at *
  obtain ⟨hTB, a5⟩ := ha
  have hTB' := hTB
  simp only [TmB, Tm.form, Tm.n, Tm.name, Tm.lv, Tm.kids] at hTB'
  obtain ⟨_, _, b1, b2, b3, b4⟩ := hTB'
  have e1 : ¬ H.next = H.next + 1 := by omega
  have e2 : ¬ H.next + 1 = H.next := by omega
  have p1 := hl1.one
  have p2 := hl1.cells
  have p3 := hk1.one
  have p4 := hk1.cells
  have kal : ∀ G, alen G .slice kx = some ks.length := fun G => hk1.alen G
  have lal : ∀ G, alen G .slice lx = some lv.length := fun G => hl1.alen G
  have hkxo : Old 0 kx := hT'.2 kx (by simp)
  have hlx : SlL lv lx := ⟨⟨ls, hl1, hl2⟩, hT'.2 lx (by simp)⟩
  refine SCall.frz (R := fun x H' => Ext H H' ∧ ∃ y, FrzN H.next H' x y ∧ TmO (okR args (.mk f n hid s lv ks)) (rvT args (.mk f n hid s lv ks)) y) (SCall.intro mixed cf107 ?_) (fun _ _ x H' ⟨h1, y, h2, h3⟩ _ => ⟨h1, y, h2, h3⟩)
  have keepN : ∀ {H' : AHeap}, okR args (.mk f n hid s lv ks) = false → ∃ y, FrzN H.next H' (.tup [.agg z6, abl false]) y ∧ TmO (okR args (.mk f n hid s lv ks)) (rvT args (.mk f n hid s lv ks)) y := fun {H'} h => by
    have h2 : TmO false (rvT args (.mk f n hid s lv ks)) (.tup [.agg z6, abl false]) := ⟨z6, rfl, tmp_zero⟩
    rw [h]
    exact ⟨_, .keep _ (h2.old _), h2⟩
  by_cases hf2 : f = 2
  · subst hf2
    simp -implicitDefEqProofs only [c107, go_sem, Nat.reduceEqDiff, Nat.reduceAdd, Nat.reduceLeDiff, ↓reduceIte, reduceCtorEq, Int.reduceBEq, Int.reduceBNe, Int.reduceLT, Int.reduceLE, Int.reduceGT, Int.reduceGE, Int.reduceNeg, Int.reduceAdd, Int.reduceSub, Nat.reduceMul, Nat.reduceLT, Int.reduceToNat, p1, p2, p3, p4, e1, e2, lal]
    refine swp_range lv.length (fun i st => st.tm 1 = ax ∧ st.tm 2 = .ptr H.next 0 ∧ st.tm 4 = .ptr (H.next + 1) 0 ∧ st.tm 7 = aint i ∧ H.next + 2 ≤ st.heap.next ∧ Ext H st.heap ∧ st.heap.get H.next = some (.cells [aint 2, aint n, abl hid, .v (.string s), lx, kx]) ∧ st.heap.get (H.next + 1) = some (.cells z6) ∧
      (∀ l ∈ lv.take i, (SubLF l args).2 = 0) ∧ ∃ x l, st.tm 6 = x ∧ OutS st.heap (H.next + 2) 2 i l x ∧ LvsX (subM args (lv.take i)) l) ?_ ?_ ?_
    · refine ⟨rfl, rfl, rfl, rfl, Nat.le_refl _, ((Ext.refl H).new _).new _, ?_, ?_, (fun l hl => by simp at hl), _, [], rfl, .nil, rfl⟩
      all_goals simp -implicitDefEqProofs only [go_sem, Nat.reduceEqDiff, Nat.reduceAdd, Nat.reduceLeDiff, ↓reduceIte, reduceCtorEq, Int.reduceBEq, Int.reduceBNe, Int.reduceLT, Int.reduceLE, Int.reduceGT, Int.reduceGE, Int.reduceNeg, Int.reduceAdd, Int.reduceSub, Nat.reduceMul, Nat.reduceLT, Int.reduceToNat, e1, e2]
    · rintro i ⟨tm, H2⟩ hi ⟨t1, t2, t4, t7, hnx, hE, g0, g1, hok, x, l, t6, hO, hX⟩
      simp only at t1 t2 t4 t7 t6 hnx hE g0 g1 hO
      have hltI : (i : Int) < (lv.length : Int) := by omega
      have hix := hl1.aix 2 hi
      obtain ⟨vx, vs, hle, hld, hv1, hv2⟩ := hl2.at (List.getElem?_eq_getElem hi)
      have w3 : IntKind.i64.wrap ((i : Int) + 1) = (i : Int) + 1 := i64_ok _ (by omega)
      have hvb := (b4 _ (List.getElem_mem hi)).2.1
      have hst : subM args (lv.take (i + 1)) = subM args (lv.take i) ++ [(SubLF lv[i] args).1] := by
        rw [List.take_succ_eq_append_getElem hi, subM, subM, List.map_append]; rfl
      have m0 : ¬ H.next = H2.next := by omega
      have m1 : ¬ H.next + 1 = H2.next := by omega
      have m2 : ¬ H2.next = H.next := by omega
      have m3 : ¬ H2.next = H.next + 1 := by omega
      simp -implicitDefEqProofs only [go_sem, Nat.reduceEqDiff, Nat.reduceAdd, Nat.reduceLeDiff, ↓reduceIte, reduceCtorEq, Int.reduceBEq, Int.reduceBNe, Int.reduceLT, Int.reduceLE, Int.reduceGT, Int.reduceGE, Int.reduceNeg, Int.reduceAdd, Int.reduceSub, Nat.reduceMul, Nat.reduceLT, Int.reduceToNat, t1, t2, t4, t6, t7, g0, g1, hltI, hix, hle, hld, lal, hv1.one, hv1.cells]
      refine i_callA (fs := []) (cs := []) (fid := 149) ?_ ?_ (subR_ok lv[i] vx vs hv1 hv2 (by omega) args ax as' ha1 ha2 hal hav _) ?_
      · rfl
      · simp -implicitDefEqProofs only [go_sem, Nat.reduceEqDiff, Nat.reduceAdd, Nat.reduceLeDiff, ↓reduceIte, reduceCtorEq, Int.reduceBEq, Int.reduceBNe, Int.reduceLT, Int.reduceLE, Int.reduceGT, Int.reduceGE, Int.reduceNeg, Int.reduceAdd, Int.reduceSub, Nat.reduceMul, Nat.reduceLT, Int.reduceToNat]
      rw [← sub_same]
      rintro z H4 ⟨hz, hHH⟩
      have hHH := hHH.symm
      subst hHH
      obtain ⟨yz, cz, rfl, hz1, hz2, hz3⟩ := hz.parts
      by_cases hse : (SubLF lv[i] args).2 = 0
      case neg =>
        simp -implicitDefEqProofs only [go_sem, Nat.reduceEqDiff, Nat.reduceAdd, Nat.reduceLeDiff, ↓reduceIte, reduceCtorEq, Int.reduceBEq, Int.reduceBNe, Int.reduceLT, Int.reduceLE, Int.reduceGT, Int.reduceGE, Int.reduceNeg, Int.reduceAdd, Int.reduceSub, Nat.reduceMul, Nat.reduceLT, Int.reduceToNat, t1, t2, t4, t6, t7, g0, g1, hz2.one, hz2.cells, m0, m1, m2, m3, bne' hse, afill]
        refine ⟨((hE.new _).set (by omega) _).set (by omega) _, keepN ?_⟩
        have hbk : ¬ badK args 0 lv = 0 := fun h => hse ((badK_all args lv).1 h _ (List.getElem_mem hi))
        rw [okR, if_pos (by decide), bne' hbk, Bool.false_and]
      have hseb : ((SubLF lv[i] args).2 == 0) = true := by rw [hse]; rfl
      simp -implicitDefEqProofs only [go_sem, Nat.reduceEqDiff, Nat.reduceAdd, Nat.reduceLeDiff, ↓reduceIte, reduceCtorEq, Int.reduceBEq, Int.reduceBNe, Int.reduceLT, Int.reduceLE, Int.reduceGT, Int.reduceGE, Int.reduceNeg, Int.reduceAdd, Int.reduceSub, Nat.reduceMul, Nat.reduceLT, Int.reduceToNat, t1, t2, t4, t6, t7, g0, g1, hz2.one, hz2.cells, m0, m1, m2, m3, hse, hseb, afill]
      refine (((hO.new _).set hO.nothere _).new _).step (m := 1) (new := [aint (SubLF lv[i] args).1.n, yz]) (asrc_slc (c := [aint (SubLF lv[i] args).1.n, yz]) (by rw [new_get]; exact if_pos rfl) (by simp)) (by simp [slv_one hz1, one_int]) (by omega) (by omega) ⟨by omega, by omega⟩ rfl (by simp only [new_next, set_next]; omega) fun x' G' r6 r7 r8 => ?_
      simp only [new_next, set_next] at r7
      have hGo : ∀ b, b < H.next + 2 → G'.get b = H2.get b := fun b hb => by
        rw [r8 b (by simp only [new_next, set_next]; omega) (hO.notlow hb), new_get, if_neg (by simp only [new_next, set_next]; omega), set_get, if_neg (by omega), new_get, if_neg (by omega)]
      simp -implicitDefEqProofs only [go_sem, Nat.reduceEqDiff, Nat.reduceAdd, Nat.reduceLeDiff, ↓reduceIte, reduceCtorEq, Int.reduceBEq, Int.reduceBNe, Int.reduceLT, Int.reduceLE, Int.reduceGT, Int.reduceGE, Int.reduceNeg, Int.reduceAdd, Int.reduceSub, Nat.reduceMul, Nat.reduceLT, Int.reduceToNat, t7, w3]
      refine ⟨t1, t2, t4, by simp, by omega, ⟨by have := hE.1; omega, fun b hb => by rw [hGo b (by omega)]; exact hE.2 b hb⟩, (hGo _ (by omega)).trans g0, (hGo _ (by omega)).trans g1, ?_, _, _, rfl, r6, ?_⟩
      · intro q hq
        rw [List.take_succ_eq_append_getElem hi] at hq
        rcases List.mem_append.1 hq with hq | hq
        · exact hok q hq
        · simp at hq; rw [hq]; exact hse
      · rw [hst]
        exact hX.snoc hz1
    · rintro ⟨tm, H1⟩ ⟨t1, t2, t4, t7, hnx1, hE1, g0, g1, hok, xl, l, t6, hO, hX⟩
      simp only at t1 t2 t4 t7 t6 hnx1 hE1 g0 g1 hO
      rw [List.take_length] at hok hX
      have hbk : badK args 0 lv = 0 := (badK_all args lv).2 hok
      have hml : (subM args lv).length = lv.length := by simp [subM]
      have hO' := hO
      rw [← hml] at hO'
      have hLP := (lp_of hO' hX (Nat.le_refl _)).frame (G := H1.set H.next (.cells [aint 2, aint n, abl hid, .v (.string s), xl, kx])) fun b q1 q2 => by rw [set_get, if_neg (by omega)]
      simp -implicitDefEqProofs only [go_sem, Nat.reduceEqDiff, Nat.reduceAdd, Nat.reduceLeDiff, ↓reduceIte, reduceCtorEq, Int.reduceBEq, Int.reduceBNe, Int.reduceLT, Int.reduceLE, Int.reduceGT, Int.reduceGE, Int.reduceNeg, Int.reduceAdd, Int.reduceSub, Nat.reduceMul, Nat.reduceLT, Int.reduceToNat, t1, t2, t4, t6, t7, Int.lt_irrefl, g0, g1, lal, kal, p1, p2, p3, p4, hO.one, hO.cells]
      refine swp_range ks.length (fun i st => st.tm 1 = ax ∧ st.tm 2 = .ptr H.next 0 ∧ st.tm 4 = .ptr (H.next + 1) 0 ∧ st.tm 11 = aint i ∧ H1.next ≤ st.heap.next ∧ Ext H st.heap ∧ st.heap.get H.next = some (.cells [aint 2, aint n, abl hid, .v (.string s), xl, kx]) ∧ st.heap.get (H.next + 1) = some (.cells z6) ∧ LP st.heap (H.next + 2) H1.next (subM args lv) xl ∧
        okRs args ks = okRs args (ks.drop i) ∧ ∃ x l, st.tm 10 = x ∧ OutS st.heap H1.next 6 i l x ∧ KsX (rvKs args (ks.take i)) l) ?_ ?_ ?_
      · refine ⟨?_, ?_, ?_, rfl, Nat.le_refl _, hE1.set (by omega) _, ?_, ?_, hLP, rfl, nils, [], rfl, .nil, rfl⟩
        all_goals simp -implicitDefEqProofs only [go_sem, Nat.reduceEqDiff, Nat.reduceAdd, Nat.reduceLeDiff, ↓reduceIte, reduceCtorEq, Int.reduceBEq, Int.reduceBNe, Int.reduceLT, Int.reduceLE, Int.reduceGT, Int.reduceGE, Int.reduceNeg, Int.reduceAdd, Int.reduceSub, Nat.reduceMul, Nat.reduceLT, Int.reduceToNat, t1, t2, t4, e1, e2, g0, g1]
      · rintro i ⟨tm, H2⟩ hi ⟨t1, t2, t4, t11, hnx, hE, g0, g1, hL, hok, x, l, t10, hO, hX⟩
        simp only at t1 t2 t4 t11 t10 hnx hE g0 g1 hL hO
        have hcso : ∀ y ∈ cs, Old 0 y := by
          rcases hk1 with ⟨h, _⟩ | ⟨lo, ex, rfl, _⟩
          · omega
          · cases hkxo with | ro _ _ _ _ h => exact h
        have hltI : (i : Int) < (ks.length : Int) := by omega
        have hix := hk1.aix 6 hi
        obtain ⟨kc, hkc, hle, hld⟩ := hk2.load (List.getElem?_eq_getElem hi)
        have hkm := List.getElem_mem hi
        have hkP : TmP ks[i] kc := ⟨hkc, fun y hy => hcso y (by rw [← hld] at hy; exact List.mem_of_mem_drop (List.mem_of_mem_take hy))⟩
        have w3 : IntKind.i64.wrap ((i : Int) + 1) = (i : Int) + 1 := i64_ok _ (by omega)
        have hdrop : ks.drop i = ks[i] :: ks.drop (i + 1) := List.drop_eq_getElem_cons hi
        rw [hdrop, okRs] at hok
        have m0 : ¬ H.next = H2.next := by omega
        have m1 : ¬ H.next + 1 = H2.next := by omega
        have m2 : ¬ H2.next = H.next := by omega
        have m3 : ¬ H2.next = H.next + 1 := by omega
        simp -implicitDefEqProofs only [go_sem, Nat.reduceEqDiff, Nat.reduceAdd, Nat.reduceLeDiff, ↓reduceIte, reduceCtorEq, Int.reduceBEq, Int.reduceBNe, Int.reduceLT, Int.reduceLE, Int.reduceGT, Int.reduceGE, Int.reduceNeg, Int.reduceAdd, Int.reduceSub, Nat.reduceMul, Nat.reduceLT, Int.reduceToNat, t1, t2, t4, t10, t11, g0, g1, hltI, hix, hle, hld, kal, hL.one, hL.cells]
        refine i_callA (fs := []) (cs := []) (fid := 107) ?_ ?_ (ih ks[i] hkm (a5.mem _ hkm) _ hkP _) ?_
        · rfl
        · simp -implicitDefEqProofs only [go_sem, Nat.reduceEqDiff, Nat.reduceAdd, Nat.reduceLeDiff, ↓reduceIte, reduceCtorEq, Int.reduceBEq, Int.reduceBNe, Int.reduceLT, Int.reduceLE, Int.reduceGT, Int.reduceGE, Int.reduceNeg, Int.reduceAdd, Int.reduceSub, Nat.reduceMul, Nat.reduceLT, Int.reduceToNat]
        rintro z H3 ⟨⟨zc, rfl, hzc⟩, hHH⟩
        have hHH := hHH.symm
        subst hHH
        cases hko : okR args ks[i] with
        | false =>
          rw [hko, Bool.false_and] at hok
          rw [hko] at hzc
          obtain ⟨zl, zk, hx6, z1, z2, z3, z4, z5, z6', z7, z8⟩ := hzc.six
          subst hx6
          simp -implicitDefEqProofs only [go_sem, Nat.reduceEqDiff, Nat.reduceAdd, Nat.reduceLeDiff, ↓reduceIte, reduceCtorEq, Int.reduceBEq, Int.reduceBNe, Int.reduceLT, Int.reduceLE, Int.reduceGT, Int.reduceGE, Int.reduceNeg, Int.reduceAdd, Int.reduceSub, Nat.reduceMul, Nat.reduceLT, Int.reduceToNat, t1, t2, t4, t10, t11, g0, g1, z1, z2, z3, z4, m0, m1, m2, m3, afill]
          refine ⟨((hE.new _).set (by omega) _).set (by omega) _, keepN ?_⟩
          rw [okR, hok, Bool.and_false]
        | true =>
          rw [hko, Bool.true_and] at hok
          rw [hko, if_pos rfl] at hzc
          obtain ⟨zl, zk, hx6, z1, z2, z3, z4, z5, z6', z7, z8⟩ := hzc.six
          subst hx6
          simp -implicitDefEqProofs only [go_sem, Nat.reduceEqDiff, Nat.reduceAdd, Nat.reduceLeDiff, ↓reduceIte, reduceCtorEq, Int.reduceBEq, Int.reduceBNe, Int.reduceLT, Int.reduceLE, Int.reduceGT, Int.reduceGE, Int.reduceNeg, Int.reduceAdd, Int.reduceSub, Nat.reduceMul, Nat.reduceLT, Int.reduceToNat, t1, t2, t4, t10, t11, g0, g1, z1, z2, z3, z4, m0, m1, m2, m3, afill]
          refine (((hO.new _).set hO.nothere _).new _).step (m := 1) (new := [aint (rvT args ks[i]).form, aint (rvT args ks[i]).n, abl (rvT args ks[i]).hid, .v (.string (rvT args ks[i]).name), zl, zk]) (asrc_slc (c := [aint (rvT args ks[i]).form, aint (rvT args ks[i]).n, abl (rvT args ks[i]).hid, .v (.string (rvT args ks[i]).name), zl, zk]) (by rw [new_get]; exact if_pos rfl) (by simp)) z8 (by omega) (by omega) ⟨by omega, by omega⟩ rfl (by simp only [new_next, set_next]; omega) fun x' G' r6 r7 r8 => ?_
          simp only [new_next, set_next] at r7
          have hGo : ∀ b, b < H1.next → G'.get b = H2.get b := fun b hb => by
            rw [r8 b (by simp only [new_next, set_next]; omega) (hO.notlow hb), new_get, if_neg (by simp only [new_next, set_next]; omega), set_get, if_neg (by omega), new_get, if_neg (by omega)]
          simp -implicitDefEqProofs only [go_sem, Nat.reduceEqDiff, Nat.reduceAdd, Nat.reduceLeDiff, ↓reduceIte, reduceCtorEq, Int.reduceBEq, Int.reduceBNe, Int.reduceLT, Int.reduceLE, Int.reduceGT, Int.reduceGE, Int.reduceNeg, Int.reduceAdd, Int.reduceSub, Nat.reduceMul, Nat.reduceLT, Int.reduceToNat, t11, w3]
          refine ⟨t1, t2, t4, by simp, by omega, ⟨by have := hE.1; omega, fun b hb => by rw [hGo b (by omega)]; exact hE.2 b hb⟩, (hGo _ (by omega)).trans g0, (hGo _ (by omega)).trans g1, hL.frame fun b q1 q2 => hGo b q2, hok, _, _, rfl, r6, ?_⟩
          rw [rvKs_take args ks i hi]
          exact hX.snoc hzc
      · rintro ⟨tm, H2⟩ ⟨t1, t2, t4, t11, hnx, hE, g0, g1, hL, hok, x, l, t10, hO, hX⟩
        simp only at t1 t2 t4 t11 t10 hnx hE g0 g1 hL hO
        rw [List.take_length] at hX
        rw [List.drop_length] at hok
        have hokk : okRs args ks = true := hok
        simp -implicitDefEqProofs only [go_sem, Nat.reduceEqDiff, Nat.reduceAdd, Nat.reduceLeDiff, ↓reduceIte, reduceCtorEq, Int.reduceBEq, Int.reduceBNe, Int.reduceLT, Int.reduceLE, Int.reduceGT, Int.reduceGE, Int.reduceNeg, Int.reduceAdd, Int.reduceSub, Nat.reduceMul, Nat.reduceLT, Int.reduceToNat, t1, t2, t4, t10, t11, Int.lt_irrefl, g0, g1, kal, hL.one, hL.cells, hO.one, hO.cells, p3, p4, e1, e2]
        refine ⟨(hE.set (by omega) _).set (by omega) _, ?_⟩
        have hO2 := (hO.set (b' := H.next) (hO.notlow (by omega)) (.cells [aint 2, aint n, abl hid, .v (.string s), xl, x])).set (b' := H.next + 1) (hO.notlow (by omega)) (.cells [aint 2, aint n, abl hid, .v (.string s), xl, x])
        rw [← rvKs_len args ks] at hO2
        obtain ⟨z, h3, h4⟩ := hO2.frzOld (N := H.next) (by omega) (fun y hy => (hX.old y hy).mono (Nat.zero_le _))
        have hL2 := hL.frame (G := (H2.set H.next (.cells [aint 2, aint n, abl hid, .v (.string s), xl, x])).set (H.next + 1) (.cells [aint 2, aint n, abl hid, .v (.string s), xl, x])) fun b q1 q2 => by rw [set_get, if_neg (by omega), set_get, if_neg (by omega)]
        obtain ⟨zy, u1, u2⟩ := hL2.frz (N := H.next) (by omega)
        have hokR : okR args (.mk 2 n hid s lv ks) = true := by rw [okR, hokk]; rw [if_pos (by decide), hbk]; rfl
        have hrv : rvT args (.mk 2 n hid s lv ks) = .mk 2 n hid s (subM args lv) (rvKs args ks) := by rw [rvT]; rw [if_pos (by decide)]
        rw [hokR, hrv]
        refine ⟨.tup [.agg [aint 2, aint n, abl hid, .v (.string s), zy, z], abl true], .tup _ _ rfl fun i x y hx hy => ?_, _, rfl, tmp_mk u2 (SlK.of hX h4)⟩
        match i, hx, hy with
        | 0, hx, hy =>
          simp at hx hy
          subst hx hy
          exact FrzN.six (.keep _ (.v _)) (.keep _ (.v _)) (.keep _ (.v _)) (.keep _ (.v _)) u1 h3
        | 1, hx, hy => simp at hx hy; subst hx hy; exact .keep _ (.v _)
        | i + 2, hx, hy => simp at hx
  by_cases hf10 : f = 10
  · subst hf10
    simp -implicitDefEqProofs only [c107, go_sem, Nat.reduceEqDiff, Nat.reduceAdd, Nat.reduceLeDiff, ↓reduceIte, reduceCtorEq, Int.reduceBEq, Int.reduceBNe, Int.reduceLT, Int.reduceLE, Int.reduceGT, Int.reduceGE, Int.reduceNeg, Int.reduceAdd, Int.reduceSub, Nat.reduceMul, Nat.reduceLT, Int.reduceToNat, p1, p2, p3, p4, e1, e2, lal]
    refine swp_range lv.length (fun i st => st.tm 1 = ax ∧ st.tm 2 = .ptr H.next 0 ∧ st.tm 4 = .ptr (H.next + 1) 0 ∧ st.tm 7 = aint i ∧ H.next + 2 ≤ st.heap.next ∧ Ext H st.heap ∧ st.heap.get H.next = some (.cells [aint 10, aint n, abl hid, .v (.string s), lx, kx]) ∧ st.heap.get (H.next + 1) = some (.cells z6) ∧
      (∀ l ∈ lv.take i, (SubLF l args).2 = 0) ∧ ∃ x l, st.tm 6 = x ∧ OutS st.heap (H.next + 2) 2 i l x ∧ LvsX (subM args (lv.take i)) l) ?_ ?_ ?_
    · refine ⟨rfl, rfl, rfl, rfl, Nat.le_refl _, ((Ext.refl H).new _).new _, ?_, ?_, (fun l hl => by simp at hl), _, [], rfl, .nil, rfl⟩
      all_goals simp -implicitDefEqProofs only [go_sem, Nat.reduceEqDiff, Nat.reduceAdd, Nat.reduceLeDiff, ↓reduceIte, reduceCtorEq, Int.reduceBEq, Int.reduceBNe, Int.reduceLT, Int.reduceLE, Int.reduceGT, Int.reduceGE, Int.reduceNeg, Int.reduceAdd, Int.reduceSub, Nat.reduceMul, Nat.reduceLT, Int.reduceToNat, e1, e2]
    · rintro i ⟨tm, H2⟩ hi ⟨t1, t2, t4, t7, hnx, hE, g0, g1, hok, x, l, t6, hO, hX⟩
      simp only at t1 t2 t4 t7 t6 hnx hE g0 g1 hO
      have hltI : (i : Int) < (lv.length : Int) := by omega
      have hix := hl1.aix 2 hi
      obtain ⟨vx, vs, hle, hld, hv1, hv2⟩ := hl2.at (List.getElem?_eq_getElem hi)
      have w3 : IntKind.i64.wrap ((i : Int) + 1) = (i : Int) + 1 := i64_ok _ (by omega)
      have hvb := (b4 _ (List.getElem_mem hi)).2.1
      have hst : subM args (lv.take (i + 1)) = subM args (lv.take i) ++ [(SubLF lv[i] args).1] := by
        rw [List.take_succ_eq_append_getElem hi, subM, subM, List.map_append]; rfl
      have m0 : ¬ H.next = H2.next := by omega
      have m1 : ¬ H.next + 1 = H2.next := by omega
      have m2 : ¬ H2.next = H.next := by omega
      have m3 : ¬ H2.next = H.next + 1 := by omega
      simp -implicitDefEqProofs only [go_sem, Nat.reduceEqDiff, Nat.reduceAdd, Nat.reduceLeDiff, ↓reduceIte, reduceCtorEq, Int.reduceBEq, Int.reduceBNe, Int.reduceLT, Int.reduceLE, Int.reduceGT, Int.reduceGE, Int.reduceNeg, Int.reduceAdd, Int.reduceSub, Nat.reduceMul, Nat.reduceLT, Int.reduceToNat, t1, t2, t4, t6, t7, g0, g1, hltI, hix, hle, hld, lal, hv1.one, hv1.cells]
      refine i_callA (fs := []) (cs := []) (fid := 149) ?_ ?_ (subR_ok lv[i] vx vs hv1 hv2 (by omega) args ax as' ha1 ha2 hal hav _) ?_
      · rfl
      · simp -implicitDefEqProofs only [go_sem, Nat.reduceEqDiff, Nat.reduceAdd, Nat.reduceLeDiff, ↓reduceIte, reduceCtorEq, Int.reduceBEq, Int.reduceBNe, Int.reduceLT, Int.reduceLE, Int.reduceGT, Int.reduceGE, Int.reduceNeg, Int.reduceAdd, Int.reduceSub, Nat.reduceMul, Nat.reduceLT, Int.reduceToNat]
      rw [← sub_same]
      rintro z H4 ⟨hz, hHH⟩
      have hHH := hHH.symm
      subst hHH
      obtain ⟨yz, cz, rfl, hz1, hz2, hz3⟩ := hz.parts
      by_cases hse : (SubLF lv[i] args).2 = 0
      case neg =>
        simp -implicitDefEqProofs only [go_sem, Nat.reduceEqDiff, Nat.reduceAdd, Nat.reduceLeDiff, ↓reduceIte, reduceCtorEq, Int.reduceBEq, Int.reduceBNe, Int.reduceLT, Int.reduceLE, Int.reduceGT, Int.reduceGE, Int.reduceNeg, Int.reduceAdd, Int.reduceSub, Nat.reduceMul, Nat.reduceLT, Int.reduceToNat, t1, t2, t4, t6, t7, g0, g1, hz2.one, hz2.cells, m0, m1, m2, m3, bne' hse, afill]
        refine ⟨((hE.new _).set (by omega) _).set (by omega) _, keepN ?_⟩
        have hbk : ¬ badK args 0 lv = 0 := fun h => hse ((badK_all args lv).1 h _ (List.getElem_mem hi))
        rw [okR, if_pos (by decide), bne' hbk, Bool.false_and]
      have hseb : ((SubLF lv[i] args).2 == 0) = true := by rw [hse]; rfl
      simp -implicitDefEqProofs only [go_sem, Nat.reduceEqDiff, Nat.reduceAdd, Nat.reduceLeDiff, ↓reduceIte, reduceCtorEq, Int.reduceBEq, Int.reduceBNe, Int.reduceLT, Int.reduceLE, Int.reduceGT, Int.reduceGE, Int.reduceNeg, Int.reduceAdd, Int.reduceSub, Nat.reduceMul, Nat.reduceLT, Int.reduceToNat, t1, t2, t4, t6, t7, g0, g1, hz2.one, hz2.cells, m0, m1, m2, m3, hse, hseb, afill]
      refine (((hO.new _).set hO.nothere _).new _).step (m := 1) (new := [aint (SubLF lv[i] args).1.n, yz]) (asrc_slc (c := [aint (SubLF lv[i] args).1.n, yz]) (by rw [new_get]; exact if_pos rfl) (by simp)) (by simp [slv_one hz1, one_int]) (by omega) (by omega) ⟨by omega, by omega⟩ rfl (by simp only [new_next, set_next]; omega) fun x' G' r6 r7 r8 => ?_
      simp only [new_next, set_next] at r7
      have hGo : ∀ b, b < H.next + 2 → G'.get b = H2.get b := fun b hb => by
        rw [r8 b (by simp only [new_next, set_next]; omega) (hO.notlow hb), new_get, if_neg (by simp only [new_next, set_next]; omega), set_get, if_neg (by omega), new_get, if_neg (by omega)]
      simp -implicitDefEqProofs only [go_sem, Nat.reduceEqDiff, Nat.reduceAdd, Nat.reduceLeDiff, ↓reduceIte, reduceCtorEq, Int.reduceBEq, Int.reduceBNe, Int.reduceLT, Int.reduceLE, Int.reduceGT, Int.reduceGE, Int.reduceNeg, Int.reduceAdd, Int.reduceSub, Nat.reduceMul, Nat.reduceLT, Int.reduceToNat, t7, w3]
      refine ⟨t1, t2, t4, by simp, by omega, ⟨by have := hE.1; omega, fun b hb => by rw [hGo b (by omega)]; exact hE.2 b hb⟩, (hGo _ (by omega)).trans g0, (hGo _ (by omega)).trans g1, ?_, _, _, rfl, r6, ?_⟩
      · intro q hq
        rw [List.take_succ_eq_append_getElem hi] at hq
        rcases List.mem_append.1 hq with hq | hq
        · exact hok q hq
        · simp at hq; rw [hq]; exact hse
      · rw [hst]
        exact hX.snoc hz1
    · rintro ⟨tm, H1⟩ ⟨t1, t2, t4, t7, hnx1, hE1, g0, g1, hok, xl, l, t6, hO, hX⟩
      simp only at t1 t2 t4 t7 t6 hnx1 hE1 g0 g1 hO
      rw [List.take_length] at hok hX
      have hbk : badK args 0 lv = 0 := (badK_all args lv).2 hok
      have hml : (subM args lv).length = lv.length := by simp [subM]
      have hO' := hO
      rw [← hml] at hO'
      have hLP := (lp_of hO' hX (Nat.le_refl _)).frame (G := H1.set H.next (.cells [aint 10, aint n, abl hid, .v (.string s), xl, kx])) fun b q1 q2 => by rw [set_get, if_neg (by omega)]
      simp -implicitDefEqProofs only [go_sem, Nat.reduceEqDiff, Nat.reduceAdd, Nat.reduceLeDiff, ↓reduceIte, reduceCtorEq, Int.reduceBEq, Int.reduceBNe, Int.reduceLT, Int.reduceLE, Int.reduceGT, Int.reduceGE, Int.reduceNeg, Int.reduceAdd, Int.reduceSub, Nat.reduceMul, Nat.reduceLT, Int.reduceToNat, t1, t2, t4, t6, t7, Int.lt_irrefl, g0, g1, lal, kal, p1, p2, p3, p4, hO.one, hO.cells]
      refine swp_range ks.length (fun i st => st.tm 1 = ax ∧ st.tm 2 = .ptr H.next 0 ∧ st.tm 4 = .ptr (H.next + 1) 0 ∧ st.tm 11 = aint i ∧ H1.next ≤ st.heap.next ∧ Ext H st.heap ∧ st.heap.get H.next = some (.cells [aint 10, aint n, abl hid, .v (.string s), xl, kx]) ∧ st.heap.get (H.next + 1) = some (.cells z6) ∧ LP st.heap (H.next + 2) H1.next (subM args lv) xl ∧
        okRs args ks = okRs args (ks.drop i) ∧ ∃ x l, st.tm 10 = x ∧ OutS st.heap H1.next 6 i l x ∧ KsX (rvKs args (ks.take i)) l) ?_ ?_ ?_
      · refine ⟨?_, ?_, ?_, rfl, Nat.le_refl _, hE1.set (by omega) _, ?_, ?_, hLP, rfl, nils, [], rfl, .nil, rfl⟩
        all_goals simp -implicitDefEqProofs only [go_sem, Nat.reduceEqDiff, Nat.reduceAdd, Nat.reduceLeDiff, ↓reduceIte, reduceCtorEq, Int.reduceBEq, Int.reduceBNe, Int.reduceLT, Int.reduceLE, Int.reduceGT, Int.reduceGE, Int.reduceNeg, Int.reduceAdd, Int.reduceSub, Nat.reduceMul, Nat.reduceLT, Int.reduceToNat, t1, t2, t4, e1, e2, g0, g1]
      · rintro i ⟨tm, H2⟩ hi ⟨t1, t2, t4, t11, hnx, hE, g0, g1, hL, hok, x, l, t10, hO, hX⟩
        simp only at t1 t2 t4 t11 t10 hnx hE g0 g1 hL hO
        have hcso : ∀ y ∈ cs, Old 0 y := by
          rcases hk1 with ⟨h, _⟩ | ⟨lo, ex, rfl, _⟩
          · omega
          · cases hkxo with | ro _ _ _ _ h => exact h
        have hltI : (i : Int) < (ks.length : Int) := by omega
        have hix := hk1.aix 6 hi
        obtain ⟨kc, hkc, hle, hld⟩ := hk2.load (List.getElem?_eq_getElem hi)
        have hkm := List.getElem_mem hi
        have hkP : TmP ks[i] kc := ⟨hkc, fun y hy => hcso y (by rw [← hld] at hy; exact List.mem_of_mem_drop (List.mem_of_mem_take hy))⟩
        have w3 : IntKind.i64.wrap ((i : Int) + 1) = (i : Int) + 1 := i64_ok _ (by omega)
        have hdrop : ks.drop i = ks[i] :: ks.drop (i + 1) := List.drop_eq_getElem_cons hi
        rw [hdrop, okRs] at hok
        have m0 : ¬ H.next = H2.next := by omega
        have m1 : ¬ H.next + 1 = H2.next := by omega
        have m2 : ¬ H2.next = H.next := by omega
        have m3 : ¬ H2.next = H.next + 1 := by omega
        simp -implicitDefEqProofs only [go_sem, Nat.reduceEqDiff, Nat.reduceAdd, Nat.reduceLeDiff, ↓reduceIte, reduceCtorEq, Int.reduceBEq, Int.reduceBNe, Int.reduceLT, Int.reduceLE, Int.reduceGT, Int.reduceGE, Int.reduceNeg, Int.reduceAdd, Int.reduceSub, Nat.reduceMul, Nat.reduceLT, Int.reduceToNat, t1, t2, t4, t10, t11, g0, g1, hltI, hix, hle, hld, kal, hL.one, hL.cells]
        refine i_callA (fs := []) (cs := []) (fid := 107) ?_ ?_ (ih ks[i] hkm (a5.mem _ hkm) _ hkP _) ?_
        · rfl
        · simp -implicitDefEqProofs only [go_sem, Nat.reduceEqDiff, Nat.reduceAdd, Nat.reduceLeDiff, ↓reduceIte, reduceCtorEq, Int.reduceBEq, Int.reduceBNe, Int.reduceLT, Int.reduceLE, Int.reduceGT, Int.reduceGE, Int.reduceNeg, Int.reduceAdd, Int.reduceSub, Nat.reduceMul, Nat.reduceLT, Int.reduceToNat]
        rintro z H3 ⟨⟨zc, rfl, hzc⟩, hHH⟩
        have hHH := hHH.symm
        subst hHH
        cases hko : okR args ks[i] with
        | false =>
          rw [hko, Bool.false_and] at hok
          rw [hko] at hzc
          obtain ⟨zl, zk, hx6, z1, z2, z3, z4, z5, z6', z7, z8⟩ := hzc.six
          subst hx6
          simp -implicitDefEqProofs only [go_sem, Nat.reduceEqDiff, Nat.reduceAdd, Nat.reduceLeDiff, ↓reduceIte, reduceCtorEq, Int.reduceBEq, Int.reduceBNe, Int.reduceLT, Int.reduceLE, Int.reduceGT, Int.reduceGE, Int.reduceNeg, Int.reduceAdd, Int.reduceSub, Nat.reduceMul, Nat.reduceLT, Int.reduceToNat, t1, t2, t4, t10, t11, g0, g1, z1, z2, z3, z4, m0, m1, m2, m3, afill]
          refine ⟨((hE.new _).set (by omega) _).set (by omega) _, keepN ?_⟩
          rw [okR, hok, Bool.and_false]
        | true =>
          rw [hko, Bool.true_and] at hok
          rw [hko, if_pos rfl] at hzc
          obtain ⟨zl, zk, hx6, z1, z2, z3, z4, z5, z6', z7, z8⟩ := hzc.six
          subst hx6
          simp -implicitDefEqProofs only [go_sem, Nat.reduceEqDiff, Nat.reduceAdd, Nat.reduceLeDiff, ↓reduceIte, reduceCtorEq, Int.reduceBEq, Int.reduceBNe, Int.reduceLT, Int.reduceLE, Int.reduceGT, Int.reduceGE, Int.reduceNeg, Int.reduceAdd, Int.reduceSub, Nat.reduceMul, Nat.reduceLT, Int.reduceToNat, t1, t2, t4, t10, t11, g0, g1, z1, z2, z3, z4, m0, m1, m2, m3, afill]
          refine (((hO.new _).set hO.nothere _).new _).step (m := 1) (new := [aint (rvT args ks[i]).form, aint (rvT args ks[i]).n, abl (rvT args ks[i]).hid, .v (.string (rvT args ks[i]).name), zl, zk]) (asrc_slc (c := [aint (rvT args ks[i]).form, aint (rvT args ks[i]).n, abl (rvT args ks[i]).hid, .v (.string (rvT args ks[i]).name), zl, zk]) (by rw [new_get]; exact if_pos rfl) (by simp)) z8 (by omega) (by omega) ⟨by omega, by omega⟩ rfl (by simp only [new_next, set_next]; omega) fun x' G' r6 r7 r8 => ?_
          simp only [new_next, set_next] at r7
          have hGo : ∀ b, b < H1.next → G'.get b = H2.get b := fun b hb => by
            rw [r8 b (by simp only [new_next, set_next]; omega) (hO.notlow hb), new_get, if_neg (by simp only [new_next, set_next]; omega), set_get, if_neg (by omega), new_get, if_neg (by omega)]
          simp -implicitDefEqProofs only [go_sem, Nat.reduceEqDiff, Nat.reduceAdd, Nat.reduceLeDiff, ↓reduceIte, reduceCtorEq, Int.reduceBEq, Int.reduceBNe, Int.reduceLT, Int.reduceLE, Int.reduceGT, Int.reduceGE, Int.reduceNeg, Int.reduceAdd, Int.reduceSub, Nat.reduceMul, Nat.reduceLT, Int.reduceToNat, t11, w3]
          refine ⟨t1, t2, t4, by simp, by omega, ⟨by have := hE.1; omega, fun b hb => by rw [hGo b (by omega)]; exact hE.2 b hb⟩, (hGo _ (by omega)).trans g0, (hGo _ (by omega)).trans g1, hL.frame fun b q1 q2 => hGo b q2, hok, _, _, rfl, r6, ?_⟩
          rw [rvKs_take args ks i hi]
          exact hX.snoc hzc
      · rintro ⟨tm, H2⟩ ⟨t1, t2, t4, t11, hnx, hE, g0, g1, hL, hok, x, l, t10, hO, hX⟩
        simp only at t1 t2 t4 t11 t10 hnx hE g0 g1 hL hO
        rw [List.take_length] at hX
        rw [List.drop_length] at hok
        have hokk : okRs args ks = true := hok
        simp -implicitDefEqProofs only [go_sem, Nat.reduceEqDiff, Nat.reduceAdd, Nat.reduceLeDiff, ↓reduceIte, reduceCtorEq, Int.reduceBEq, Int.reduceBNe, Int.reduceLT, Int.reduceLE, Int.reduceGT, Int.reduceGE, Int.reduceNeg, Int.reduceAdd, Int.reduceSub, Nat.reduceMul, Nat.reduceLT, Int.reduceToNat, t1, t2, t4, t10, t11, Int.lt_irrefl, g0, g1, kal, hL.one, hL.cells, hO.one, hO.cells, p3, p4, e1, e2]
        refine ⟨(hE.set (by omega) _).set (by omega) _, ?_⟩
        have hO2 := (hO.set (b' := H.next) (hO.notlow (by omega)) (.cells [aint 10, aint n, abl hid, .v (.string s), xl, x])).set (b' := H.next + 1) (hO.notlow (by omega)) (.cells [aint 10, aint n, abl hid, .v (.string s), xl, x])
        rw [← rvKs_len args ks] at hO2
        obtain ⟨z, h3, h4⟩ := hO2.frzOld (N := H.next) (by omega) (fun y hy => (hX.old y hy).mono (Nat.zero_le _))
        have hL2 := hL.frame (G := (H2.set H.next (.cells [aint 10, aint n, abl hid, .v (.string s), xl, x])).set (H.next + 1) (.cells [aint 10, aint n, abl hid, .v (.string s), xl, x])) fun b q1 q2 => by rw [set_get, if_neg (by omega), set_get, if_neg (by omega)]
        obtain ⟨zy, u1, u2⟩ := hL2.frz (N := H.next) (by omega)
        have hokR : okR args (.mk 10 n hid s lv ks) = true := by rw [okR, hokk]; rw [if_pos (by decide), hbk]; rfl
        have hrv : rvT args (.mk 10 n hid s lv ks) = .mk 10 n hid s (subM args lv) (rvKs args ks) := by rw [rvT]; rw [if_pos (by decide)]
        rw [hokR, hrv]
        refine ⟨.tup [.agg [aint 10, aint n, abl hid, .v (.string s), zy, z], abl true], .tup _ _ rfl fun i x y hx hy => ?_, _, rfl, tmp_mk u2 (SlK.of hX h4)⟩
        match i, hx, hy with
        | 0, hx, hy =>
          simp at hx hy
          subst hx hy
          exact FrzN.six (.keep _ (.v _)) (.keep _ (.v _)) (.keep _ (.v _)) (.keep _ (.v _)) u1 h3
        | 1, hx, hy => simp at hx hy; subst hx hy; exact .keep _ (.v _)
        | i + 2, hx, hy => simp at hx
  have hnf : ¬ (f = 2 ∨ f = 10) := fun h => h.elim hf2 hf10
  simp -implicitDefEqProofs only [c107, go_sem, Nat.reduceEqDiff, Nat.reduceAdd, Nat.reduceLeDiff, ↓reduceIte, reduceCtorEq, Int.reduceBEq, Int.reduceBNe, Int.reduceLT, Int.reduceLE, Int.reduceGT, Int.reduceGE, Int.reduceNeg, Int.reduceAdd, Int.reduceSub, Nat.reduceMul, Nat.reduceLT, Int.reduceToNat, p1, p2, p3, p4, e1, e2, bne' hf2, bne' hf10, kal]
  refine swp_range ks.length (fun i st => st.tm 1 = ax ∧ st.tm 2 = .ptr H.next 0 ∧ st.tm 4 = .ptr (H.next + 1) 0 ∧ st.tm 11 = aint i ∧ (H.next + 2) ≤ st.heap.next ∧ Ext H st.heap ∧ st.heap.get H.next = some (.cells [aint f, aint n, abl hid, .v (.string s), lx, kx]) ∧ st.heap.get (H.next + 1) = some (.cells z6) ∧ LP st.heap (H.next + 2) (H.next + 2) lv lx ∧
    okRs args ks = okRs args (ks.drop i) ∧ ∃ x l, st.tm 10 = x ∧ OutS st.heap (H.next + 2) 6 i l x ∧ KsX (rvKs args (ks.take i)) l) ?_ ?_ ?_
  · refine ⟨rfl, rfl, rfl, rfl, Nat.le_refl _, ((Ext.refl H).new _).new _, ?_, ?_, .inl hlx, rfl, _, [], rfl, .nil, rfl⟩
    all_goals simp -implicitDefEqProofs only [go_sem, Nat.reduceEqDiff, Nat.reduceAdd, Nat.reduceLeDiff, ↓reduceIte, reduceCtorEq, Int.reduceBEq, Int.reduceBNe, Int.reduceLT, Int.reduceLE, Int.reduceGT, Int.reduceGE, Int.reduceNeg, Int.reduceAdd, Int.reduceSub, Nat.reduceMul, Nat.reduceLT, Int.reduceToNat, e1, e2]
  · rintro i ⟨tm, H2⟩ hi ⟨t1, t2, t4, t11, hnx, hE, g0, g1, hL, hok, x, l, t10, hO, hX⟩
    simp only at t1 t2 t4 t11 t10 hnx hE g0 g1 hL hO
    have hcso : ∀ y ∈ cs, Old 0 y := by
      rcases hk1 with ⟨h, _⟩ | ⟨lo, ex, rfl, _⟩
      · omega
      · cases hkxo with | ro _ _ _ _ h => exact h
    have hltI : (i : Int) < (ks.length : Int) := by omega
    have hix := hk1.aix 6 hi
    obtain ⟨kc, hkc, hle, hld⟩ := hk2.load (List.getElem?_eq_getElem hi)
    have hkm := List.getElem_mem hi
    have hkP : TmP ks[i] kc := ⟨hkc, fun y hy => hcso y (by rw [← hld] at hy; exact List.mem_of_mem_drop (List.mem_of_mem_take hy))⟩
    have w3 : IntKind.i64.wrap ((i : Int) + 1) = (i : Int) + 1 := i64_ok _ (by omega)
    have hdrop : ks.drop i = ks[i] :: ks.drop (i + 1) := List.drop_eq_getElem_cons hi
    rw [hdrop, okRs] at hok
    have m0 : ¬ H.next = H2.next := by omega
    have m1 : ¬ H.next + 1 = H2.next := by omega
    have m2 : ¬ H2.next = H.next := by omega
    have m3 : ¬ H2.next = H.next + 1 := by omega
    simp -implicitDefEqProofs only [go_sem, Nat.reduceEqDiff, Nat.reduceAdd, Nat.reduceLeDiff, ↓reduceIte, reduceCtorEq, Int.reduceBEq, Int.reduceBNe, Int.reduceLT, Int.reduceLE, Int.reduceGT, Int.reduceGE, Int.reduceNeg, Int.reduceAdd, Int.reduceSub, Nat.reduceMul, Nat.reduceLT, Int.reduceToNat, t1, t2, t4, t10, t11, g0, g1, hltI, hix, hle, hld, kal, hL.one, hL.cells]
    refine i_callA (fs := []) (cs := []) (fid := 107) ?_ ?_ (ih ks[i] hkm (a5.mem _ hkm) _ hkP _) ?_
    · rfl
    · simp -implicitDefEqProofs only [go_sem, Nat.reduceEqDiff, Nat.reduceAdd, Nat.reduceLeDiff, ↓reduceIte, reduceCtorEq, Int.reduceBEq, Int.reduceBNe, Int.reduceLT, Int.reduceLE, Int.reduceGT, Int.reduceGE, Int.reduceNeg, Int.reduceAdd, Int.reduceSub, Nat.reduceMul, Nat.reduceLT, Int.reduceToNat]
    rintro z H3 ⟨⟨zc, rfl, hzc⟩, hHH⟩
    have hHH := hHH.symm
    subst hHH
    cases hko : okR args ks[i] with
    | false =>
      rw [hko, Bool.false_and] at hok
      rw [hko] at hzc
      obtain ⟨zl, zk, hx6, z1, z2, z3, z4, z5, z6', z7, z8⟩ := hzc.six
      subst hx6
      simp -implicitDefEqProofs only [go_sem, Nat.reduceEqDiff, Nat.reduceAdd, Nat.reduceLeDiff, ↓reduceIte, reduceCtorEq, Int.reduceBEq, Int.reduceBNe, Int.reduceLT, Int.reduceLE, Int.reduceGT, Int.reduceGE, Int.reduceNeg, Int.reduceAdd, Int.reduceSub, Nat.reduceMul, Nat.reduceLT, Int.reduceToNat, t1, t2, t4, t10, t11, g0, g1, z1, z2, z3, z4, m0, m1, m2, m3, afill]
      refine ⟨((hE.new _).set (by omega) _).set (by omega) _, keepN ?_⟩
      rw [okR, hok, Bool.and_false]
    | true =>
      rw [hko, Bool.true_and] at hok
      rw [hko, if_pos rfl] at hzc
      obtain ⟨zl, zk, hx6, z1, z2, z3, z4, z5, z6', z7, z8⟩ := hzc.six
      subst hx6
      simp -implicitDefEqProofs only [go_sem, Nat.reduceEqDiff, Nat.reduceAdd, Nat.reduceLeDiff, ↓reduceIte, reduceCtorEq, Int.reduceBEq, Int.reduceBNe, Int.reduceLT, Int.reduceLE, Int.reduceGT, Int.reduceGE, Int.reduceNeg, Int.reduceAdd, Int.reduceSub, Nat.reduceMul, Nat.reduceLT, Int.reduceToNat, t1, t2, t4, t10, t11, g0, g1, z1, z2, z3, z4, m0, m1, m2, m3, afill]
      refine (((hO.new _).set hO.nothere _).new _).step (m := 1) (new := [aint (rvT args ks[i]).form, aint (rvT args ks[i]).n, abl (rvT args ks[i]).hid, .v (.string (rvT args ks[i]).name), zl, zk]) (asrc_slc (c := [aint (rvT args ks[i]).form, aint (rvT args ks[i]).n, abl (rvT args ks[i]).hid, .v (.string (rvT args ks[i]).name), zl, zk]) (by rw [new_get]; exact if_pos rfl) (by simp)) z8 (by omega) (by omega) ⟨by omega, by omega⟩ rfl (by simp only [new_next, set_next]; omega) fun x' G' r6 r7 r8 => ?_
      simp only [new_next, set_next] at r7
      have hGo : ∀ b, b < (H.next + 2) → G'.get b = H2.get b := fun b hb => by
        rw [r8 b (by simp only [new_next, set_next]; omega) (hO.notlow hb), new_get, if_neg (by simp only [new_next, set_next]; omega), set_get, if_neg (by omega), new_get, if_neg (by omega)]
      simp -implicitDefEqProofs only [go_sem, Nat.reduceEqDiff, Nat.reduceAdd, Nat.reduceLeDiff, ↓reduceIte, reduceCtorEq, Int.reduceBEq, Int.reduceBNe, Int.reduceLT, Int.reduceLE, Int.reduceGT, Int.reduceGE, Int.reduceNeg, Int.reduceAdd, Int.reduceSub, Nat.reduceMul, Nat.reduceLT, Int.reduceToNat, t11, w3]
      refine ⟨t1, t2, t4, by simp, by omega, ⟨by have := hE.1; omega, fun b hb => by rw [hGo b (by omega)]; exact hE.2 b hb⟩, (hGo _ (by omega)).trans g0, (hGo _ (by omega)).trans g1, hL.frame fun b q1 q2 => hGo b q2, hok, _, _, rfl, r6, ?_⟩
      rw [rvKs_take args ks i hi]
      exact hX.snoc hzc
  · rintro ⟨tm, H2⟩ ⟨t1, t2, t4, t11, hnx, hE, g0, g1, hL, hok, x, l, t10, hO, hX⟩
    simp only at t1 t2 t4 t11 t10 hnx hE g0 g1 hL hO
    rw [List.take_length] at hX
    rw [List.drop_length] at hok
    have hokk : okRs args ks = true := hok
    simp -implicitDefEqProofs only [go_sem, Nat.reduceEqDiff, Nat.reduceAdd, Nat.reduceLeDiff, ↓reduceIte, reduceCtorEq, Int.reduceBEq, Int.reduceBNe, Int.reduceLT, Int.reduceLE, Int.reduceGT, Int.reduceGE, Int.reduceNeg, Int.reduceAdd, Int.reduceSub, Nat.reduceMul, Nat.reduceLT, Int.reduceToNat, t1, t2, t4, t10, t11, Int.lt_irrefl, g0, g1, kal, hL.one, hL.cells, hO.one, hO.cells, p3, p4, e1, e2]
    refine ⟨(hE.set (by omega) _).set (by omega) _, ?_⟩
    have hO2 := (hO.set (b' := H.next) (hO.notlow (by omega)) (.cells [aint f, aint n, abl hid, .v (.string s), lx, x])).set (b' := H.next + 1) (hO.notlow (by omega)) (.cells [aint f, aint n, abl hid, .v (.string s), lx, x])
    rw [← rvKs_len args ks] at hO2
    obtain ⟨z, h3, h4⟩ := hO2.frzOld (N := H.next) (by omega) (fun y hy => (hX.old y hy).mono (Nat.zero_le _))
    have hL2 := hL.frame (G := (H2.set H.next (.cells [aint f, aint n, abl hid, .v (.string s), lx, x])).set (H.next + 1) (.cells [aint f, aint n, abl hid, .v (.string s), lx, x])) fun b q1 q2 => by rw [set_get, if_neg (by omega), set_get, if_neg (by omega)]
    obtain ⟨zy, u1, u2⟩ := hL2.frz (N := H.next) (by omega)
    have hokR : okR args (.mk f n hid s lv ks) = true := by rw [okR, hokk]; rw [if_neg hnf]; rfl
    have hrv : rvT args (.mk f n hid s lv ks) = .mk f n hid s lv (rvKs args ks) := by rw [rvT]; rw [if_neg hnf]
    rw [hokR, hrv]
    refine ⟨.tup [.agg [aint f, aint n, abl hid, .v (.string s), zy, z], abl true], .tup _ _ rfl fun i x y hx hy => ?_, _, rfl, tmp_mk u2 (SlK.of hX h4)⟩
    match i, hx, hy with
    | 0, hx, hy =>
      simp at hx hy
      subst hx hy
      exact FrzN.six (.keep _ (.v _)) (.keep _ (.v _)) (.keep _ (.v _)) (.keep _ (.v _)) u1 h3
    | 1, hx, hy => simp at hx hy; subst hx hy; exact .keep _ (.v _)
    | i + 2, hx, hy => simp at hx
end Go.Proofs.Ytooaiddfokbffaa.E

/- The law TermLevels, walked. Conditions: none. -/
set_option linter.unusedVariables false
set_option linter.unusedSimpArgs false
namespace Go.Proofs.Ytooaiddfokbffaa.E
open Go Go.Proofs
attribute [local go_sem] s_seq s_ops s_draw s_block s_skip s_ret s_exit i_nil i_cons i_run i_runG s_condQ c_true c_false aop ev_t ev_c updO_at updO_no upd_at t_normal t_ret t_exit b_normal b_ret b_exit a_some ac_v ac_agg ac_ptr ac_slc ac_ro ac_rop ac_fn new_next set_next argTm_zero argTm_succ argTm_nil ab_bool ab_uv beq_self_eq_true Option.some_beq_some Bool.not_not beq_iff_eq decide_true decide_false Bool.not_true Bool.not_false afld aload astore apack alen_str alen_ro alen_slc alen_nil new_get set_get ite_true ite_false Option.map_some Option.bind_some ibin isShift Nat.add_zero Nat.zero_add List.length_cons List.length_nil List.drop_zero List.drop_succ_cons List.take_succ_cons List.take_zero if_true if_false setL List.set_cons_zero List.set_cons_succ List.all_cons List.all_nil one_int one_bool one_str one_nil one_ptr one_slc one_ro one_rop one_fn Bool.and_self Bool.and_true true_and and_true and_self Bool.false_eq_true post_ret post_normal resAll resOne packR Option.some.injEq exists_eq_left' List.map_cons List.map_nil List.nil_append List.append_nil List.cons_append d_nil d_cons k_nil k_cons g_op g_same g_new avBlock forall_eq' List.getElem?_cons_succ List.getElem?_cons_zero List.getElem?_nil okind gOk bne false_imp_iff forall_const imp_self implies_true true_imp_iff i_callG

set_option maxRecDepth 100000 in
theorem Levels2_ok (args : List Lv) (ax : AV) (as' : List AV) (ha1 : SlR args.length ax as') (ha2 : LvsR args as') (hal : args.length ≤ 4611686018427387904) (hav : ∀ a ∈ args, a.vars.length ≤ 4611686018427387904)
    (t : Tm) (ha : Tm.All TmB t) (cells : List AV) (hT : TmP t cells) (H : AHeap) :
    SCall Try.prog 56 [.agg cells, ax] H fun x H' => TmE (LevelsF args t).1 (LevelsF args t).2 x ∧ H' = H := by
  have hT' := hT
  obtain ⟨lx, kx, hc6, p1, p2, p3, p4, p5, p6, p7, p8⟩ := hT.six
  subst hc6
  have main : SCall Try.prog 56 [.agg [aint t.form, aint t.n, abl t.hid, .v (.string t.name), lx, kx], ax] H fun x H' => TmE (LevelsF args t).1 (LevelsF args t).2 x ∧ Ext H H' := by
    refine SCall.intro mixed cf56 ?_
    have e1 : ¬ H.next = H.next + 1 := by omega
    have e2 : ¬ H.next + 1 = H.next := by omega
    have e3 : ¬ H.next = H.next + 1 + 1 := by omega
    have e4 : ¬ H.next + 1 = H.next + 1 + 1 := by omega
    have e5 : ¬ H.next + 1 + 1 = H.next := by omega
    have e6 : ¬ H.next + 1 + 1 = H.next + 1 := by omega
    simp -implicitDefEqProofs only [c56, go_sem, Nat.reduceEqDiff, Nat.reduceAdd, Nat.reduceLeDiff, ↓reduceIte, reduceCtorEq, Int.reduceBEq, Int.reduceBNe, Int.reduceLT, Int.reduceLE, Int.reduceGT, Int.reduceGE, Int.reduceNeg, Int.reduceAdd, Int.reduceSub, Nat.reduceMul, Nat.reduceLT, Int.reduceToNat, p1, p2, p3, p4, e1, e2]
    refine i_callA (fs := []) (cs := []) ?_ ?_ (check2_ok canF t (tmb_fine2 ha) _ hT'.1 _) ?_
    · rfl
    · simp -implicitDefEqProofs only [go_sem, Nat.reduceEqDiff, Nat.reduceAdd, Nat.reduceLeDiff, ↓reduceIte, reduceCtorEq, Int.reduceBEq, Int.reduceBNe, Int.reduceLT, Int.reduceLE, Int.reduceGT, Int.reduceGE, Int.reduceNeg, Int.reduceAdd, Int.reduceSub, Nat.reduceMul, Nat.reduceLT, Int.reduceToNat]
    rintro x H3 ⟨rfl, rfl⟩
    rw [check_same]
    by_cases hc : checkF canF t = 0
    case neg =>
      simp -implicitDefEqProofs only [go_sem, Nat.reduceEqDiff, Nat.reduceAdd, Nat.reduceLeDiff, ↓reduceIte, reduceCtorEq, Int.reduceBEq, Int.reduceBNe, Int.reduceLT, Int.reduceLE, Int.reduceGT, Int.reduceGE, Int.reduceNeg, Int.reduceAdd, Int.reduceSub, Nat.reduceMul, Nat.reduceLT, Int.reduceToNat, p1, p2, p3, p4, e1, e2, afill, bne' hc]
      exact ⟨⟨z6, by simp [LevelsF, hc], by simp [LevelsF, hc]; exact tmp_zero⟩, (((Ext.refl H).new _).new _).set (by omega) _⟩
    have hnk := form_nk canF t (check_form hc).2
    have hok := ok_same args t hnk
    rw [hc]
    simp -implicitDefEqProofs only [go_sem, Nat.reduceEqDiff, Nat.reduceAdd, Nat.reduceLeDiff, ↓reduceIte, reduceCtorEq, Int.reduceBEq, Int.reduceBNe, Int.reduceLT, Int.reduceLE, Int.reduceGT, Int.reduceGE, Int.reduceNeg, Int.reduceAdd, Int.reduceSub, Nat.reduceMul, Nat.reduceLT, Int.reduceToNat, p1, p2, p3, p4, e1, e2]
    refine i_callA (fs := []) (cs := []) (fid := 107) ?_ ?_ (rv_ok args ax as' ha1 ha2 hal hav t ha _ hT' _) ?_
    · rfl
    · simp -implicitDefEqProofs only [go_sem, Nat.reduceEqDiff, Nat.reduceAdd, Nat.reduceLeDiff, ↓reduceIte, reduceCtorEq, Int.reduceBEq, Int.reduceBNe, Int.reduceLT, Int.reduceLE, Int.reduceGT, Int.reduceGE, Int.reduceNeg, Int.reduceAdd, Int.reduceSub, Nat.reduceMul, Nat.reduceLT, Int.reduceToNat]
    rw [hok]
    rintro x H3 ⟨⟨c1, rfl, h1⟩, rfl⟩
    cases ho : okT args t with
    | false =>
      rw [ho] at h1
      obtain ⟨ux, vx, hx6, k1, k2, k3, k4, _⟩ := h1.six
      subst hx6
      have hF : LevelsF args t = (zeroTm, 13) := by
        unfold LevelsF
        rw [if_neg (by simp [hc]), if_neg (by simp [ho])]
      rw [hF]
      simp -implicitDefEqProofs only [go_sem, Nat.reduceEqDiff, Nat.reduceAdd, Nat.reduceLeDiff, ↓reduceIte, reduceCtorEq, Int.reduceBEq, Int.reduceBNe, Int.reduceLT, Int.reduceLE, Int.reduceGT, Int.reduceGE, Int.reduceNeg, Int.reduceAdd, Int.reduceSub, Nat.reduceMul, Nat.reduceLT, Int.reduceToNat, p1, p2, p3, p4, e1, e2, e3, e4, e5, e6, k1, k2, k3, k4, afill]
      exact ⟨⟨z6, rfl, tmp_zero⟩, (((((Ext.refl H).new _).new _).new _).set (by omega) _).set (by omega) _⟩
    | true =>
      rw [ho, if_pos rfl] at h1
      obtain ⟨ux, vx, hx6, k1, k2, k3, k4, _⟩ := h1.six
      subst hx6
      have hF : LevelsF args t = wholeF (rvT args t) := by
        unfold LevelsF
        rw [if_neg (by simp [hc]), if_pos ho]
        have h := whole_told (x := rvT args t) (y := lvT args t) (by rw [clean_rv args t hnk, clean_lv])
        rw [h, clean_lv]
      rw [hF]
      simp -implicitDefEqProofs only [go_sem, Nat.reduceEqDiff, Nat.reduceAdd, Nat.reduceLeDiff, ↓reduceIte, reduceCtorEq, Int.reduceBEq, Int.reduceBNe, Int.reduceLT, Int.reduceLE, Int.reduceGT, Int.reduceGE, Int.reduceNeg, Int.reduceAdd, Int.reduceSub, Nat.reduceMul, Nat.reduceLT, Int.reduceToNat, p1, p2, p3, p4, e1, e2, e3, e4, e5, e6, k1, k2, k3, k4]
      refine i_callA (fs := []) (cs := []) ?_ ?_ (whole_ok (rvT args t) (tmb_rvT args t ha) _ h1 _) ?_
      · rfl
      · simp -implicitDefEqProofs only [go_sem, Nat.reduceEqDiff, Nat.reduceAdd, Nat.reduceLeDiff, ↓reduceIte, reduceCtorEq, Int.reduceBEq, Int.reduceBNe, Int.reduceLT, Int.reduceLE, Int.reduceGT, Int.reduceGE, Int.reduceNeg, Int.reduceAdd, Int.reduceSub, Nat.reduceMul, Nat.reduceLT, Int.reduceToNat]
      rintro x H3 ⟨⟨c3, rfl, h3⟩, rfl⟩
      obtain ⟨wx, zx, hx6, l1, l2, l3, l4, _⟩ := h3.six
      subst hx6
      simp -implicitDefEqProofs only [go_sem, Nat.reduceEqDiff, Nat.reduceAdd, Nat.reduceLeDiff, ↓reduceIte, reduceCtorEq, Int.reduceBEq, Int.reduceBNe, Int.reduceLT, Int.reduceLE, Int.reduceGT, Int.reduceGE, Int.reduceNeg, Int.reduceAdd, Int.reduceSub, Nat.reduceMul, Nat.reduceLT, Int.reduceToNat, e1, e2, e3, e4, e5, e6, l1, l2, l3, l4]
      exact ⟨⟨_, rfl, h3⟩, (((((Ext.refl H).new _).new _).new _).set (by omega) _).set (by omega) _⟩
  exact main.frz fun _ _ x H' ⟨hx, hE⟩ _ => ⟨hE, x, .keep _ (hx.old _), hx⟩

section
open Go.ChangeShapes Go.WideShapes Go.ChangeAt Go.RowKit
variable {H : Type} {enc : TypeId × Value → H} {w : World} {base : Nat} {sp : Nat → Bool} {held : Bool}
def LsB (ls : List Lv) : Prop := ls.length * 32 ≤ 140737488351232 ∧ ∀ l ∈ ls, LvB l
set_option maxRecDepth 100000 in
theorem levels_arg {r : Reach} {b0 : Nat} {v : Value} {d : DataW H} {ps : List MemPlace} (hval : Value.okWide Try.prog w r b0 22 v) (h : DataW.Trod enc Try.prog w base sp held 22 v d ps) (hw : Wt Try.prog 22 d) :
    ∃ (ls : List Lv) (y : AV), LsB ls ∧ (∃ cs, SlR ls.length y cs ∧ LvsR ls cs) ∧ Old 0 y ∧ VRel Emb.empty w y v := by
  obtain ⟨a0, len0, cap0, rfl⟩ := okWide_slice Try.underlying22 hval
  obtain ⟨fuel, hf⟩ := h
  cases fuel with
  | zero => simp [DataW.trod] at hf
  | succ fuel =>
  have hf' : DataW.trod enc Try.prog w base sp held (fuel + 1) 22 [.slice a0 len0 cap0] = some (d, ps) := hf
  have key : ∃ (ls : List Lv) (y : AV), LsB ls ∧ (∃ cs, SlR ls.length y cs ∧ LvsR ls cs) ∧ VRel Emb.empty w y (.slice a0 len0 cap0) := by
    rcases trod_slice Try.underlying22 hf' hw with hv | ⟨ad, len, cap, us, hv, k1, k2, k3, k4, k5, kb⟩
    · rw [hv]
      exact ⟨[], nils, ⟨by simp, fun v hv => by cases hv⟩, ⟨[], .inl ⟨rfl, rfl⟩, trivial⟩, .v _ rfl⟩
    · rw [hv]
      rw [cells65] at k3 k5
      rw [bytes65, reach_eq] at kb
      obtain ⟨lv, ls, q1, q2, q3⟩ := rl_of (c := 2) (R := fun (l : Lv) ys => LvB l ∧ ∃ vx vs, SlR l.vars.length vx vs ∧ VarsR l.vars vs ∧ ys = [aint l.n, vx]) len us k3 (fun i hi => by
        obtain ⟨d', p', k6, kw⟩ := k5 i hi
        obtain ⟨l, vx, vs, k7, k8, k9, k10⟩ := trod_lv k6 kw
        exact ⟨l, _, ⟨k7, vx, vs, k8, k9, rfl⟩, k10⟩)
      obtain ⟨q4, q5⟩ := lvs_of_rl q3
      exact ⟨lv, .ro len cap false ls, ⟨by omega, q5⟩, ⟨ls, .inr ⟨cap, false, by rw [q1], by omega⟩, q4⟩, slice_rel k1 k4 q2⟩
  obtain ⟨ls, y, k1, k2, k3⟩ := key
  exact ⟨ls, y, k1, k2, old0 k3, k3⟩
end

theorem levels_tmb (args : List Lv) (t : Tm) (ha : Tm.All TmB t) : Tm.All TmB (LevelsF args t).1 := by
  unfold LevelsF
  split
  · exact tmb_zero
  split
  · unfold toldF
    split
    · exact tmb_zero
    · exact tmb_lvT args t ha
  · exact tmb_zero

set_option maxRecDepth 100000 in
theorem law_levels (t : Tm) (ht : Tm.All TmB t) (tc : List AV) (hT : TmR t tc) (ot : ∀ y ∈ tc, Old 0 y) (args : List Lv) (hb : LsB args) (ax : AV) (hA : ∃ cs, SlR args.length ax cs ∧ LvsR args cs) (_oa : Old 0 ax) (H : AHeap) :
    SCall Try.prog 11 [.agg tc, ax] H fun x H' => x = abl true ∧ H' = H := by
  have hTP : TmP t tc := ⟨hT, ot⟩
  have hT' := hT
  obtain ⟨as', ha1, ha2⟩ := hA
  obtain ⟨hb1, hb2⟩ := hb
  have hal : args.length ≤ 4611686018427387904 := by omega
  have hav : ∀ a ∈ args, a.vars.length ≤ 4611686018427387904 := fun a h => by have := (hb2 a h).2.1; omega
  have aal : ∀ G, alen G .slice ax = some args.length := fun G => ha1.alen G
  obtain ⟨lx, kx, ls, cs, rfl, hl1, hl2, hk1, hk2⟩ := hT.six
  have p1 := hl1.one
  have p2 := hl1.cells
  have p3 := hk1.one
  have p4 := hk1.cells
  refine SCall.val (SCall.intro mixed cf11 ?_)
  simp -implicitDefEqProofs only [c11, go_sem, Nat.reduceEqDiff, Nat.reduceAdd, Nat.reduceLeDiff, ↓reduceIte, reduceCtorEq, Int.reduceBEq, Int.reduceBNe, Int.reduceLT, Int.reduceLE, Int.reduceGT, Int.reduceGE, Int.reduceNeg, Int.reduceAdd, Int.reduceSub, Nat.reduceMul, Nat.reduceLT, Int.reduceToNat, p1, p2, p3, p4]
  refine i_callA (fs := []) (cs := []) ?_ ?_ (alive2_ok _) ?_
  · rfl
  · simp -implicitDefEqProofs only [go_sem, Nat.reduceEqDiff, Nat.reduceAdd, Nat.reduceLeDiff, ↓reduceIte, reduceCtorEq, Int.reduceBEq, Int.reduceBNe, Int.reduceLT, Int.reduceLE, Int.reduceGT, Int.reduceGE, Int.reduceNeg, Int.reduceAdd, Int.reduceSub, Nat.reduceMul, Nat.reduceLT, Int.reduceToNat]
  rintro x H3 ⟨rfl, rfl⟩
  simp -implicitDefEqProofs only [go_sem, Nat.reduceEqDiff, Nat.reduceAdd, Nat.reduceLeDiff, ↓reduceIte, reduceCtorEq, Int.reduceBEq, Int.reduceBNe, Int.reduceLT, Int.reduceLE, Int.reduceGT, Int.reduceGE, Int.reduceNeg, Int.reduceAdd, Int.reduceSub, Nat.reduceMul, Nat.reduceLT, Int.reduceToNat, p1, p2, p3, p4]
  refine i_callA (fs := []) (cs := []) ?_ ?_ (big_ok t ht _ hT' _) ?_
  · rfl
  · simp -implicitDefEqProofs only [go_sem, Nat.reduceEqDiff, Nat.reduceAdd, Nat.reduceLeDiff, ↓reduceIte, reduceCtorEq, Int.reduceBEq, Int.reduceBNe, Int.reduceLT, Int.reduceLE, Int.reduceGT, Int.reduceGE, Int.reduceNeg, Int.reduceAdd, Int.reduceSub, Nat.reduceMul, Nat.reduceLT, Int.reduceToNat]
  rintro x H3 ⟨rfl, rfl⟩
  cases h1 : bigF t with
  | true =>
    simp -implicitDefEqProofs only [go_sem, Nat.reduceEqDiff, Nat.reduceAdd, Nat.reduceLeDiff, ↓reduceIte, reduceCtorEq, Int.reduceBEq, Int.reduceBNe, Int.reduceLT, Int.reduceLE, Int.reduceGT, Int.reduceGE, Int.reduceNeg, Int.reduceAdd, Int.reduceSub, Nat.reduceMul, Nat.reduceLT, Int.reduceToNat, p1, p2, p3, p4]
    exact (Ext.refl H).new _
  | false =>
  by_cases hg : (args.length : Int) > 50
  · simp -implicitDefEqProofs only [go_sem, Nat.reduceEqDiff, Nat.reduceAdd, Nat.reduceLeDiff, ↓reduceIte, reduceCtorEq, Int.reduceBEq, Int.reduceBNe, Int.reduceLT, Int.reduceLE, Int.reduceGT, Int.reduceGE, Int.reduceNeg, Int.reduceAdd, Int.reduceSub, Nat.reduceMul, Nat.reduceLT, Int.reduceToNat, p1, p2, p3, p4, aal, hg]
    exact (Ext.refl H).new _
  simp -implicitDefEqProofs only [go_sem, Nat.reduceEqDiff, Nat.reduceAdd, Nat.reduceLeDiff, ↓reduceIte, reduceCtorEq, Int.reduceBEq, Int.reduceBNe, Int.reduceLT, Int.reduceLE, Int.reduceGT, Int.reduceGE, Int.reduceNeg, Int.reduceAdd, Int.reduceSub, Nat.reduceMul, Nat.reduceLT, Int.reduceToNat, p1, p2, p3, p4, aal, hg]
  refine swp_range args.length (fun i st => st.tm 1 = ax ∧ st.tm 2 = .ptr H.next 0 ∧ st.tm 7 = aint i ∧ H.next + 1 ≤ st.heap.next ∧ Ext H st.heap ∧ st.heap.get H.next = some (.cells [aint t.form, aint t.n, abl t.hid, .v (.string t.name), lx, kx])) ?_ ?_ ?_
  · exact ⟨rfl, rfl, rfl, Nat.le_refl _, (Ext.refl H).new _, by simp -implicitDefEqProofs only [go_sem, Nat.reduceEqDiff, Nat.reduceAdd, Nat.reduceLeDiff, ↓reduceIte, reduceCtorEq, Int.reduceBEq, Int.reduceBNe, Int.reduceLT, Int.reduceLE, Int.reduceGT, Int.reduceGE, Int.reduceNeg, Int.reduceAdd, Int.reduceSub, Nat.reduceMul, Nat.reduceLT, Int.reduceToNat]⟩
  · rintro i ⟨tm, H2⟩ hi ⟨t1, t2, t7, hnx, hE, g0⟩
    simp only at t1 t2 t7 hnx hE g0
    have hltI : (i : Int) < (args.length : Int) := by omega
    have hix := ha1.aix 2 hi
    obtain ⟨wx, ws, hle, hld, hw1, hw2⟩ := ha2.at (List.getElem?_eq_getElem hi)
    have hle1 : i * 2 + 1 + 1 ≤ as'.length := by omega
    have hld1 : (as'.drop (i * 2 + 1)).take 1 = [wx] := by
      have := congrArg (fun q => (List.drop 1 q).take 1) hld
      simp only [List.drop_take, List.drop_drop, List.take_take] at this
      simpa using this
    have wal : ∀ G, alen G .slice wx = some args[i].vars.length := fun G => hw1.alen G
    have w3 : IntKind.i64.wrap ((i : Int) + 1) = (i : Int) + 1 := i64_ok _ (by omega)
    by_cases hgt : (args[i].vars.length : Int) > 100
    · simp -implicitDefEqProofs only [go_sem, Nat.reduceEqDiff, Nat.reduceAdd, Nat.reduceLeDiff, ↓reduceIte, reduceCtorEq, Int.reduceBEq, Int.reduceBNe, Int.reduceLT, Int.reduceLE, Int.reduceGT, Int.reduceGE, Int.reduceNeg, Int.reduceAdd, Int.reduceSub, Nat.reduceMul, Nat.reduceLT, Int.reduceToNat, t1, t2, t7, aal, hltI, hix, hle1, hld1, hw1.one, hw1.cells, wal, hgt]
      exact hE
    · simp -implicitDefEqProofs only [go_sem, Nat.reduceEqDiff, Nat.reduceAdd, Nat.reduceLeDiff, ↓reduceIte, reduceCtorEq, Int.reduceBEq, Int.reduceBNe, Int.reduceLT, Int.reduceLE, Int.reduceGT, Int.reduceGE, Int.reduceNeg, Int.reduceAdd, Int.reduceSub, Nat.reduceMul, Nat.reduceLT, Int.reduceToNat, t1, t2, t7, aal, hltI, hix, hle1, hld1, hw1.one, hw1.cells, wal, hgt, w3]
      exact ⟨by simp, hnx, hE, g0⟩
  · rintro ⟨tm, G0⟩ ⟨t1, t2, t7, hnx, hE, g0⟩
    simp only at t1 t2 t7 hnx hE g0
    have at3 : At G0 H.next (.cells [aint t.form, aint t.n, abl t.hid, .v (.string t.name), lx, kx]) := ⟨g0, hnx⟩
    simp -implicitDefEqProofs only [go_sem, Nat.reduceEqDiff, Nat.reduceAdd, Nat.reduceLeDiff, ↓reduceIte, reduceCtorEq, Int.reduceBEq, Int.reduceBNe, Int.reduceLT, Int.reduceLE, Int.reduceGT, Int.reduceGE, Int.reduceNeg, Int.reduceAdd, Int.reduceSub, Nat.reduceMul, Nat.reduceLT, Int.reduceToNat, t1, t2, t7, aal, Int.lt_irrefl, at3.1]
    refine i_callA (fs := []) (cs := []) (fid := 55) ?_ ?_ (Levels_ok args ax as' ha1 ha2 hal hav t ht _ hTP _) ?_
    · rfl
    · simp -implicitDefEqProofs only [go_sem, Nat.reduceEqDiff, Nat.reduceAdd, Nat.reduceLeDiff, ↓reduceIte, reduceCtorEq, Int.reduceBEq, Int.reduceBNe, Int.reduceLT, Int.reduceLE, Int.reduceGT, Int.reduceGE, Int.reduceNeg, Int.reduceAdd, Int.reduceSub, Nat.reduceMul, Nat.reduceLT, Int.reduceToNat, t1]
    rintro x H3 ⟨⟨c, rfl, hca⟩, hHH⟩
    have hHH := hHH.symm
    subst hHH
    have hba := levels_tmb args t ht
    generalize hra : (LevelsF args t).1 = ra at *
    generalize hre : (LevelsF args t).2 = re at *
    obtain ⟨axa, bxa, hx6, k1a, k2a, k3a, k4a, _⟩ := hca.six
    subst hx6
    simp -implicitDefEqProofs only [go_sem, Nat.reduceEqDiff, Nat.reduceAdd, Nat.reduceLeDiff, ↓reduceIte, reduceCtorEq, Int.reduceBEq, Int.reduceBNe, Int.reduceLT, Int.reduceLE, Int.reduceGT, Int.reduceGE, Int.reduceNeg, Int.reduceAdd, Int.reduceSub, Nat.reduceMul, Nat.reduceLT, Int.reduceToNat, t1, t2, at3.1, Nat.ne_of_lt at3.2, k1a, k2a, k3a, k4a]
    have hX : Ext G0 ((G0.new (.cells z6)).set G0.next (.cells [aint ra.form, aint ra.n, abl ra.hid, .v (.string ra.name), axa, bxa])) := Ext.put1 _ _ _
    have at8 : At ((G0.new (.cells z6)).set G0.next (.cells [aint ra.form, aint ra.n, abl ra.hid, .v (.string ra.name), axa, bxa])) G0.next (.cells [aint ra.form, aint ra.n, abl ra.hid, .v (.string ra.name), axa, bxa]) := At.put _ _ _
    have at3 := at3.ext hX
    have hE := hE.trans hX
    clear hX
    generalize hb8 : G0.next = b8 at *
    generalize (G0.new (.cells z6)).set b8 (.cells [aint ra.form, aint ra.n, abl ra.hid, .v (.string ra.name), axa, bxa]) = G1 at *
    refine i_callA (fs := []) (cs := []) (fid := 56) ?_ ?_ (Levels2_ok args ax as' ha1 ha2 hal hav t ht _ hTP _) ?_
    · rfl
    · simp -implicitDefEqProofs only [go_sem, Nat.reduceEqDiff, Nat.reduceAdd, Nat.reduceLeDiff, ↓reduceIte, reduceCtorEq, Int.reduceBEq, Int.reduceBNe, Int.reduceLT, Int.reduceLE, Int.reduceGT, Int.reduceGE, Int.reduceNeg, Int.reduceAdd, Int.reduceSub, Nat.reduceMul, Nat.reduceLT, Int.reduceToNat, t1]
    rw [hra, hre]
    rintro x H3 ⟨⟨c, rfl, hcw⟩, hHH⟩
    have hHH := hHH.symm
    subst hHH
    obtain ⟨axw, bxw, hx6, k1w, k2w, k3w, k4w, _⟩ := hcw.six
    subst hx6
    simp -implicitDefEqProofs only [go_sem, Nat.reduceEqDiff, Nat.reduceAdd, Nat.reduceLeDiff, ↓reduceIte, reduceCtorEq, Int.reduceBEq, Int.reduceBNe, Int.reduceLT, Int.reduceLE, Int.reduceGT, Int.reduceGE, Int.reduceNeg, Int.reduceAdd, Int.reduceSub, Nat.reduceMul, Nat.reduceLT, Int.reduceToNat, t1, t2, at3.1, Nat.ne_of_lt at3.2, at8.1, Nat.ne_of_lt at8.2, k1a, k2a, k3a, k4a, k1w, k2w, k3w, k4w]
    have hX : Ext G1 ((G1.new (.cells z6)).set G1.next (.cells [aint ra.form, aint ra.n, abl ra.hid, .v (.string ra.name), axw, bxw])) := Ext.put1 _ _ _
    have hE := hE.trans hX
    refine i_callA (fs := []) (cs := []) ?_ ?_ (num2_ok re _) ?_
    · rfl
    · simp -implicitDefEqProofs only [go_sem, Nat.reduceEqDiff, Nat.reduceAdd, Nat.reduceLeDiff, ↓reduceIte, reduceCtorEq, Int.reduceBEq, Int.reduceBNe, Int.reduceLT, Int.reduceLE, Int.reduceGT, Int.reduceGE, Int.reduceNeg, Int.reduceAdd, Int.reduceSub, Nat.reduceMul, Nat.reduceLT, Int.reduceToNat]
    rintro x H3 ⟨rfl, hHH⟩
    have hHH := hHH.symm
    subst hHH
    simp -implicitDefEqProofs only [go_sem, Nat.reduceEqDiff, Nat.reduceAdd, Nat.reduceLeDiff, ↓reduceIte, reduceCtorEq, Int.reduceBEq, Int.reduceBNe, Int.reduceLT, Int.reduceLE, Int.reduceGT, Int.reduceGE, Int.reduceNeg, Int.reduceAdd, Int.reduceSub, Nat.reduceMul, Nat.reduceLT, Int.reduceToNat, t1, t2, at3.1, Nat.ne_of_lt at3.2, at8.1, Nat.ne_of_lt at8.2, k1a, k2a, k3a, k4a, k1w, k2w, k3w, k4w, BEq.rfl]
    refine i_callA (fs := []) (cs := []) ?_ ?_ (exact_ok ra hba _ _ hca.1 hcw.1 _) ?_
    · rfl
    · simp -implicitDefEqProofs only [go_sem, Nat.reduceEqDiff, Nat.reduceAdd, Nat.reduceLeDiff, ↓reduceIte, reduceCtorEq, Int.reduceBEq, Int.reduceBNe, Int.reduceLT, Int.reduceLE, Int.reduceGT, Int.reduceGE, Int.reduceNeg, Int.reduceAdd, Int.reduceSub, Nat.reduceMul, Nat.reduceLT, Int.reduceToNat]
    rintro x H3 ⟨rfl, hHH⟩
    have hHH := hHH.symm
    subst hHH
    simp -implicitDefEqProofs only [go_sem, Nat.reduceEqDiff, Nat.reduceAdd, Nat.reduceLeDiff, ↓reduceIte, reduceCtorEq, Int.reduceBEq, Int.reduceBNe, Int.reduceLT, Int.reduceLE, Int.reduceGT, Int.reduceGE, Int.reduceNeg, Int.reduceAdd, Int.reduceSub, Nat.reduceMul, Nat.reduceLT, Int.reduceToNat]
    exact hE
end Go.Proofs.Ytooaiddfokbffaa.E

/- The row TermLevels: whatever the input, the law answers true. Conditions: none. -/
set_option linter.unusedVariables false
set_option linter.unusedSimpArgs false
namespace Go.Proofs.Ytooaiddfokbffaa.termLevels
open Go.ChangeShapes Go.WideShapes Go.ChangeAt Go.RowKit
open Go.ChangeMaps (open_string shut_string)
set_option maxRecDepth 100000 in
theorem lifted (os : Os) (started : os.Started) (H : Type) (enc : TypeId × Value → H) :
    ReturnsInHanded {} Try.checked os 11 .any (Rows.termLevelsSpec.pre6 enc Try.prog Try.f11 Rows.termLevelsRow.domain false) (Rows.termLevelsSpec.post enc Try.prog Try.f11 false true false false) := by
  refine returnsInHanded_of_change_sized (C := Try.checked) E.own started (by kernel_rfl) Try.func11
    (ChangeSpec.witness6 (enc := enc) (C := Try.checked) false ⟨#[], #[.agg #[.int .i64 0, .int .i64 0, .bool false, .string ByteArray.empty, .slice none 0 0, .slice none 0 0], .slice none 0 0], []⟩ 8 (by kernel_rfl) (by kernel_rfl) (by kernel_rfl) (by kernel_rfl)) ?_
  intro W base args ds gs before hval0 hW hcnd hsz0 _
  have hsz : (DataW.weightsEach Try.prog (Try.f11.params.toList ++ Rows.termLevelsSpec.plain.varTypes Try.prog) (ds ++ gs)).all (· ≤ reachBytes) = true := hsz0
  have hval : ∀ (j : Nat) t v, Try.f11.params[j]? = some t → args[j]? = some v → Value.okWide Try.prog W .any base t v := hval0
  have hW' := hW
  obtain ⟨p, q, hA0, hV, rfl, hfz, hnd⟩ := hW
  have hA : DataW.TrodAll enc Try.prog W 0 (fun _ => true) true Try.f11.params.toList args.toList ds p := hA0
  rw [Try.params11] at hA hval hsz
  obtain ⟨v0, vs0, d0, ds0, p0, q0, hargs, rfl, rfl, h0, r0⟩ := trodAll_cons hA
  obtain ⟨v1, vs1, d1, ds1, p1, q1, rfl, rfl, rfl, h1, r1⟩ := trodAll_cons r0
  obtain ⟨rfl, rfl, rfl⟩ := trodAll_nil r1
  obtain rfl : args = #[v0, v1] := by cases args; simp_all
  obtain ⟨rfl, rfl⟩ := trodVars_none hV
  have k0 := h0
  have lt0 : ∀ x ∈ p0, x.block < W.heap.size := by obtain ⟨m, hm⟩ := k0; exact DataW.trod_lt m _ _ _ hm
  obtain ⟨t0, y0, b0, c0, o0, w0⟩ := E.term_arg h0 (E.wt_arg hsz (j := 0) (t := 25) rfl rfl)
  have k1 := h1
  have lt1 : ∀ x ∈ p1, x.block < W.heap.size := by obtain ⟨m, hm⟩ := k1; exact DataW.trod_lt m _ _ _ hm
  obtain ⟨t1, y1, b1, c1, o1, w1⟩ := E.levels_arg (hval 1 22 v1 rfl rfl) h1 (E.wt_arg hsz (j := 1) (t := 22) rfl rfl)
  clear hA0 hval0 hsz0 hsz
  refine (E.law_walk (E.law_levels t0 b0 y0 c0 o0 t1 b1 y1 c1 o1 E.AHeap.empty) (E.LRel.cons w0 (E.LRel.cons w1 E.lrel_nil))).mono fun e W' ⟨he, bel⟩ => ?_
  subst he
  exact ⟨_, rfl, _, _, _, [], _, [], hW', trodAll_mk1 (shut_bool Try.underlying4 _), (trodAll_cons_mk (Below.trod E.laidOut (by kernel_rfl) (of_decide_eq_true (by kernel_rfl)) k0 bel lt0) (trodAll_cons_mk (Below.trod E.laidOut (by kernel_rfl) (of_decide_eq_true (by kernel_rfl)) k1 bel lt1) trodAll_mk0)), rfl, bel.frame _, fun h => by cases h⟩

theorem over : Rows.termLevelsRow.holds Try.pinned (OpenSpec.ofChange Rows.termLevelsSpec) :=
  OpenClaim.holds_of_wide 11 Try.f11 rfl rfl rfl rfl rfl rfl rfl ⟨rfl, rfl, rfl, rfl, rfl⟩ rfl rfl rfl rfl rfl (by kernel_rfl) Try.func11 (by kernel_rfl)
    (of_decide_eq_true (by kernel_rfl)) (by unfold Func.isWrapper; first | (rw [if_pos (by decide +kernel)]; kernel_rfl) | (rw [if_neg (by decide +kernel)]; exact ⟨rfl, rfl⟩))
    (fun os started H enc _ => lifted os started H enc)
theorem proved : Rows.TermLevelsSaid := over
end Go.Proofs.Ytooaiddfokbffaa.termLevels
namespace Go.Proofs.Ytooaiddfokbffaa
/-- The row, under a short name, for the claim. -/
theorem termLevels_holds : Rows.TermLevelsSaid := termLevels.proved
#print axioms termLevels_holds
end Go.Proofs.Ytooaiddfokbffaa
