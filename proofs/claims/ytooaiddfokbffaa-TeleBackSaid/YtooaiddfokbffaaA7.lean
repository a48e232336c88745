/- Texts of the proof, one behind the other. Conditions: none. -/
import Derived.Test.YtooaiddfokbffaaA6
import Derived.RangeFuncLeaves
import Derived.RangeFuncRecord
/- raw.Spine, as the code does it. Conditions: none. -/
set_option linter.unusedVariables false
set_option linter.unusedSimpArgs false
namespace Go.Proofs.Ytooaiddfokbffaa.E
open Go Go.Proofs
attribute [local go_sem] s_seq s_ops s_draw s_block s_skip s_ret s_exit i_nil i_cons i_run i_runG s_condQ c_true c_false aop ev_t ev_c updO_at updO_no upd_at t_normal t_ret t_exit b_normal b_ret b_exit a_some ac_v ac_agg ac_ptr ac_slc ac_ro ac_rop ac_fn new_next set_next argTm_zero argTm_succ argTm_nil ab_bool ab_uv beq_self_eq_true Option.some_beq_some Bool.not_not beq_iff_eq decide_true decide_false Bool.not_true Bool.not_false afld aload astore apack alen_str alen_ro alen_slc alen_nil new_get set_get ite_true ite_false Option.map_some Option.bind_some ibin isShift Nat.add_zero Nat.zero_add List.length_cons List.length_nil List.drop_zero List.drop_succ_cons List.take_succ_cons List.take_zero if_true if_false setL List.set_cons_zero List.set_cons_succ List.all_cons List.all_nil one_int one_bool one_str one_nil one_ptr one_slc one_ro one_rop one_fn Bool.and_self Bool.and_true true_and and_true and_self Bool.false_eq_true post_ret post_normal resAll resOne packR Option.some.injEq exists_eq_left' List.map_cons List.map_nil List.nil_append List.append_nil List.cons_append d_nil d_cons k_nil k_cons g_op g_same g_new avBlock forall_eq' List.getElem?_cons_succ List.getElem?_cons_zero List.getElem?_nil okind gOk bne false_imp_iff forall_const imp_self implies_true true_imp_iff i_callG

mutual
/-- The arguments of a row of applications. -/
def spT : Tm → List (Tm × Bool)
  | .mk f n h s lv ks => if f = 5 then spK h ks else []
def spK (h : Bool) : List Tm → List (Tm × Bool)
  | [] => []
  | k :: r => spT k ++ (match r with | [] => [] | a :: _ => [(a, h)])
end
mutual
/-- Its head. -/
def hdT : Tm → Tm
  | .mk f n h s lv ks => if f = 5 then hdK (.mk f n h s lv ks) ks else .mk f n h s lv ks
def hdK (t : Tm) : List Tm → Tm
  | [] => t
  | k :: _ => hdT k
end
/-- An application has two parts. -/
def Ap (t : Tm) : Prop := t.form = 5 → t.kids.length = 2
theorem form_ap (r : Lv → Bool) : ∀ t, allF (formF r) t = true → Tm.All Ap t := by
  refine Tm.rule fun f n hd s lv ks ih h => ?_
  simp only [allF, Bool.and_eq_true] at h
  obtain ⟨h1, h2⟩ := h
  simp only [Tm.All]
  refine ⟨fun hf => ?_, ?_⟩
  · have hk : kidsF f = (ks.length : Int) := by
      rcases Classical.em (kidsF f = (ks.length : Int)) with h' | h'
      · exact h'
      · unfold formF at h1
        rw [if_pos (by exact h')] at h1
        cases h1
    have hf : f = 5 := hf
    subst hf
    have : kidsF 5 = 2 := by decide
    show ks.length = 2
    omega
  · have key : ∀ ks', (∀ k ∈ ks', k ∈ ks) → allK (formF r) ks' = true → Tm.AllL Ap ks' := by
      intro ks'
      induction ks' with
      | nil => intro _ _; trivial
      | cons k q ih' =>
        intro hm h
        simp only [allK, Bool.and_eq_true] at h
        exact ⟨ih k (hm k (List.mem_cons_self ..)) h.1, ih' (fun k hk => hm k (List.mem_cons_of_mem _ hk)) h.2⟩
    exact key ks (fun _ h => h) h2

/-- Terms and their pieces of cells. -/
def PW (ks : List Tm) (ps : List (List AV)) : Prop := ks.length = ps.length ∧ ∀ (i : Nat) (k : Tm) (p : List AV), ks[i]? = some k → ps[i]? = some p → TmP k p
theorem ksX_iff : ∀ {ks : List Tm} {l : List AV}, KsX ks l ↔ ∃ ps, Parts 6 ps l ∧ PW ks ps
  | [], l => by
    constructor
    · intro h; simp only [KsX] at h; exact ⟨[], h, rfl, fun i k p h => by simp at h⟩
    · rintro ⟨ps, h1, h2, _⟩
      have : ps = [] := List.length_eq_zero_iff.1 h2.symm
      subst this
      exact h1
  | k :: r, l => by
    constructor
    · intro h
      simp only [KsX] at h
      obtain ⟨c, cs', rfl, h1, h2⟩ := h
      obtain ⟨ps, q1, q2, q3⟩ := ksX_iff.1 h2
      refine ⟨c :: ps, ⟨cs', rfl, h1.1.len, q1⟩, by simp [q2], fun i k' p hk hp => ?_⟩
      cases i with
      | zero => simp at hk hp; subst hk hp; exact h1
      | succ i => exact q3 i k' p (by simpa using hk) (by simpa using hp)
    · rintro ⟨ps, h1, h2, h3⟩
      cases ps with
      | nil => simp at h2
      | cons p ps =>
        simp only [Parts] at h1
        obtain ⟨l', rfl, q1, q2⟩ := h1
        exact ⟨p, l', rfl, h3 0 k p rfl rfl, ksX_iff.2 ⟨ps, q2, by simpa using h2, fun i k' p' hk hp => h3 (i + 1) k' p' (by simpa using hk) (by simpa using hp)⟩⟩
theorem PW.reverse {ks : List Tm} {ps : List (List AV)} (h : PW ks ps) : PW ks.reverse ps.reverse := by
  obtain ⟨h1, h2⟩ := h
  refine ⟨by simp [h1], fun i k p hk hp => ?_⟩
  have hi : i < ks.length := by have := (List.getElem?_eq_some_iff.1 hk).1; simpa using this
  rw [List.getElem?_reverse hi] at hk
  rw [List.getElem?_reverse (by omega)] at hp
  rw [h1] at hk
  exact h2 _ k p hk hp
theorem PW.one {ks : List Tm} {ps : List (List AV)} (h : PW ks ps) : ∀ p ∈ ps, p.all AV.one = true := by
  intro p hp
  obtain ⟨i, hi, he⟩ := List.getElem_of_mem hp
  have hk : i < ks.length := by rw [h.1]; exact hi
  obtain ⟨_, _, _, _, _, _, _, _, _, _, h8⟩ := (h.2 i _ p (List.getElem?_eq_getElem hk) (by rw [List.getElem?_eq_getElem hi, he])).six
  exact h8

theorem rev_out {ks : List Tm} {H : AHeap} {base : Nat} {l : List AV} {x : AV} (hO : OutS H base 6 ks.length l x) (hX : KsX ks l) (hn : ks.length ≤ 1000000) :
    SCall Try.prog 133 [x] H fun _ H' => ∃ l', OutS H' base 6 ks.length l' x ∧ KsX ks.reverse l' ∧ H'.next = H.next ∧ ∀ b, avBlock x ≠ some b → H'.get b = H.get b := by
  rcases hO with ⟨h0, rfl, rfl⟩ | ⟨b, h1, h2, rfl, h3, h4⟩
  · have hks : ks = [] := List.length_eq_zero_iff.1 h0
    subst hks
    refine SCall.intro mixed cf133 ?_
    simp -implicitDefEqProofs only [c133, go_sem, Nat.reduceEqDiff, Nat.reduceAdd, Nat.reduceLeDiff, ↓reduceIte, reduceCtorEq, Int.reduceBEq, Int.reduceBNe, Int.reduceLT, Int.reduceLE, Int.reduceGT, Int.reduceGE, Int.reduceNeg, Int.reduceAdd, Int.reduceSub, Nat.reduceMul, Nat.reduceLT, Int.reduceToNat]
    refine swp_range 0 (fun i st => st.tm 0 = nils ∧ st.tm 2 = aint 0 ∧ st.tm 3 = aint (-1) ∧ st.heap = H) ?_ ?_ ?_
    · exact ⟨rfl, rfl, rfl, rfl⟩
    · intro i st hi; omega
    · rintro ⟨tm, H2⟩ ⟨t0, t2, t3, hh⟩
      simp only at t0 t2 t3 hh
      subst hh
      simp -implicitDefEqProofs only [go_sem, Nat.reduceEqDiff, Nat.reduceAdd, Nat.reduceLeDiff, ↓reduceIte, reduceCtorEq, Int.reduceBEq, Int.reduceBNe, Int.reduceLT, Int.reduceLE, Int.reduceGT, Int.reduceGE, Int.reduceNeg, Int.reduceAdd, Int.reduceSub, Nat.reduceMul, Nat.reduceLT, Int.reduceToNat, t0, t2, t3]
      exact ⟨[], .nil, rfl⟩
  · obtain ⟨ps, q1, q2⟩ := ksX_iff.1 hX
    have h := reverse_ok ps q2.one (by rw [← q2.1]; exact hn) b false l q1 H h3
    rw [← q2.1] at h
    refine h.mono ?_
    rintro _ H' ⟨l', hl', rfl⟩
    refine ⟨l', .inr ⟨b, h1, h2, rfl, by rw [set_get, if_pos rfl], ?_⟩, ksX_iff.2 ⟨_, hl', q2.reverse⟩, rfl, fun b' hb' => ?_⟩
    · have := hl'.len; rw [List.length_reverse, ← q2.1] at this; exact this
    · rw [set_get, if_neg (fun hh => hb' (by rw [hh]; rfl))]

def hidC (hs : List Bool) : List AV := hs.map abl
theorem parts1 : ∀ (hs : List Bool), Parts 1 (hs.map fun b => [abl b]) (hidC hs)
  | [] => rfl
  | b :: r => ⟨hidC r, rfl, rfl, parts1 r⟩
theorem parts1_eq {hs : List Bool} {l : List AV} (h : Parts 1 (hs.map fun b => [abl b]) l) : l = hidC hs := by
  have h1 := (Parts.flat.1 h).1
  have h2 := (Parts.flat.1 (parts1 hs)).1
  rw [h1, ← h2]
theorem rev1_out {hs : List Bool} {H : AHeap} {base : Nat} {x : AV} (hO : OutS H base 1 hs.length (hidC hs) x) (hn : hs.length ≤ 1000000) :
    SCall Try.prog 134 [x] H fun _ H' => OutS H' base 1 hs.length (hidC hs.reverse) x ∧ H'.next = H.next ∧ ∀ b, avBlock x ≠ some b → H'.get b = H.get b := by
  rcases hO with ⟨h0, _, rfl⟩ | ⟨b, h1, h2, rfl, h3, h4⟩
  · have hks : hs = [] := List.length_eq_zero_iff.1 h0
    subst hks
    refine SCall.intro mixed cf134 ?_
    simp -implicitDefEqProofs only [c134, go_sem, Nat.reduceEqDiff, Nat.reduceAdd, Nat.reduceLeDiff, ↓reduceIte, reduceCtorEq, Int.reduceBEq, Int.reduceBNe, Int.reduceLT, Int.reduceLE, Int.reduceGT, Int.reduceGE, Int.reduceNeg, Int.reduceAdd, Int.reduceSub, Nat.reduceMul, Nat.reduceLT, Int.reduceToNat]
    refine swp_range 0 (fun i st => st.tm 0 = nils ∧ st.tm 2 = aint 0 ∧ st.tm 3 = aint (-1) ∧ st.heap = H) ?_ ?_ ?_
    · exact ⟨rfl, rfl, rfl, rfl⟩
    · intro i st hi; omega
    · rintro ⟨tm, H2⟩ ⟨t0, t2, t3, hh⟩
      simp only at t0 t2 t3 hh
      subst hh
      simp -implicitDefEqProofs only [go_sem, Nat.reduceEqDiff, Nat.reduceAdd, Nat.reduceLeDiff, ↓reduceIte, reduceCtorEq, Int.reduceBEq, Int.reduceBNe, Int.reduceLT, Int.reduceLE, Int.reduceGT, Int.reduceGE, Int.reduceNeg, Int.reduceAdd, Int.reduceSub, Nat.reduceMul, Nat.reduceLT, Int.reduceToNat, t0, t2, t3]
      exact .nil
  · have h := reverse1_ok (hs.map fun b => [abl b]) (fun p hp => by obtain ⟨v, _, rfl⟩ := List.mem_map.1 hp; exact ⟨v, rfl⟩) (by simpa using hn) b false _ (parts1 hs) H h3
    simp only [List.length_map] at h
    refine h.mono ?_
    rintro _ H' ⟨l', hl', rfl⟩
    rw [← List.map_reverse] at hl'
    have := parts1_eq hl'
    subst this
    refine ⟨.inr ⟨b, h1, h2, rfl, by rw [set_get, if_pos rfl], by simp [hidC]⟩, rfl, fun b' hb' => ?_⟩
    rw [set_get, if_neg (fun hh => hb' (by rw [hh]; rfl))]

/-- A row and another lie in two blocks. -/
def Two (x y : AV) : Prop := ∀ b, avBlock x = some b → avBlock y ≠ some b
theorem two_nil (y : AV) : Two nils y := fun b h => by cases h
theorem OutS.blk {H : AHeap} {base es n : Nat} {l : List AV} {x : AV} (h : OutS H base es n l x) {b : Nat} (hb : avBlock x = some b) : base ≤ b ∧ b < H.next := by
  rcases h with ⟨_, _, rfl⟩ | ⟨b0, g1, g2, rfl, _⟩
  · cases hb
  · cases hb; exact ⟨g1, g2⟩
theorem OutS.slcb {H : AHeap} {base es n : Nat} {l : List AV} {x : AV} (h : OutS H base es n l x) {b : Nat} (hb : avBlock x ≠ some b) : ∀ off es' n' lo ex, x ≠ .slc b off es' n' lo ex := by
  intro off es' n' lo ex hx
  subst hx
  exact hb rfl
theorem OutS.keepB {H H' : AHeap} {base es n : Nat} {l : List AV} {x : AV} (h : OutS H base es n l x) (hn : H.next ≤ H'.next) (hk : ∀ b, avBlock x = some b → H'.get b = H.get b) : OutS H' base es n l x :=
  h.keep hn fun b off es' n' lo ex hx => hk b (by rw [hx]; rfl)

set_option maxRecDepth 100000 in
theorem rawSpine_ok (t : Tm) (ha : Tm.All Ap t) (hz : szT t ≤ 20000) (cells : List AV) (hT : TmP t cells) (H : AHeap) :
    SCall Try.prog 88 [.agg cells] H fun r H' => ∃ c x y l, r = .tup [.agg c, x, y] ∧ TmP (hdT t) c ∧ OutS H' H.next 6 (spT t).length l x ∧ KsX ((spT t).map (·.1)) l ∧ OutS H' H.next 1 (spT t).length (hidC ((spT t).map (·.2))) y ∧ Two x y ∧ Ext H H' ∧ (spT t).length ≤ 20000 := by
  have hT' := hT
  obtain ⟨lx0, kx0, hc6, p1, p2, p3, p4, p5, p6, p7, p8⟩ := hT.six
  subst hc6
  have e1 : ¬ H.next = H.next + 1 := by omega
  have e2 : ¬ H.next + 1 = H.next := by omega
  refine SCall.intro mixed cf88 ?_
  simp -implicitDefEqProofs only [c88, go_sem, Nat.reduceEqDiff, Nat.reduceAdd, Nat.reduceLeDiff, ↓reduceIte, reduceCtorEq, Int.reduceBEq, Int.reduceBNe, Int.reduceLT, Int.reduceLE, Int.reduceGT, Int.reduceGE, Int.reduceNeg, Int.reduceAdd, Int.reduceSub, Nat.reduceMul, Nat.reduceLT, Int.reduceToNat, p1, p2, p3, p4, e1, e2]
  refine swp_loop (fun k st => ∃ (u : Tm) (c : List AV) (d : List (Tm × Bool)) (x y : AV) (l : List AV), k = szT u ∧ st.tm 1 = .ptr H.next 0 ∧ st.tm 2 = .ptr (H.next + 1) 0 ∧ st.tm 5 = x ∧ st.tm 6 = y ∧ H.next + 2 ≤ st.heap.next ∧ Ext H st.heap ∧ st.heap.get H.next = some (.cells c) ∧ st.heap.get (H.next + 1) = some (.cells z6) ∧
    Tm.All Ap u ∧ TmP u c ∧ hdT t = hdT u ∧ spT t = spT u ++ d.reverse ∧ d.length + szT u ≤ 20000 ∧ OutS st.heap (H.next + 2) 6 d.length l x ∧ KsX (d.map (·.1)) l ∧ OutS st.heap (H.next + 2) 1 d.length (hidC (d.map (·.2))) y ∧ Two x y) (k := szT t) ?_ ?_
  · refine ⟨t, _, [], nils, nils, [], rfl, rfl, rfl, rfl, rfl, Nat.le_refl _, ((Ext.refl H).new _).new _, ?_, ?_, ha, hT', rfl, by simp, by simpa using hz, .nil, rfl, .nil, two_nil _⟩
    all_goals simp -implicitDefEqProofs only [go_sem, Nat.reduceEqDiff, Nat.reduceAdd, Nat.reduceLeDiff, ↓reduceIte, reduceCtorEq, Int.reduceBEq, Int.reduceBNe, Int.reduceLT, Int.reduceLE, Int.reduceGT, Int.reduceGE, Int.reduceNeg, Int.reduceAdd, Int.reduceSub, Nat.reduceMul, Nat.reduceLT, Int.reduceToNat, e1, e2]
  · rintro k ⟨tm, H2⟩ ⟨u, c, d, x, y, l, rfl, t1, t2, t5, t6, hnx, hE, g0, g1, hap, hu, hhd, hsp, hdl, hO, hX, hO2, hTw⟩
    simp only at t1 t2 t5 t6 hnx hE g0 g1 hO hO2
    obtain ⟨f, n, hid, s, lv, ks⟩ := u
    have hu' := hu
    obtain ⟨lx, kx, ls, cs, rfl, hl1, hl2, hk1, hk2⟩ := hu.1.six
    simp only [Tm.form, Tm.n, Tm.hid, Tm.name, Tm.lv, Tm.kids] at *
    have q1 := hl1.one
    have q2 := hl1.cells
    have q3 := hk1.one
    have q4 := hk1.cells
    by_cases hf : f = 5
    case neg =>
      have hs0 : spT (.mk f n hid s lv ks) = [] := by rw [spT, if_neg hf]
      have hh0 : hdT (.mk f n hid s lv ks) = .mk f n hid s lv ks := by rw [hdT, if_neg hf]
      rw [hs0, List.nil_append] at hsp
      rw [hh0] at hhd
      have hlen : (spT t).length = d.length := by rw [hsp, List.length_reverse]
      have hdl' : d.length ≤ 20000 := by omega
      have hmf : (d.map (·.1)).length = d.length := by simp
      have hmg : (d.map (·.2)).length = d.length := by simp
      simp -implicitDefEqProofs only [go_sem, Nat.reduceEqDiff, Nat.reduceAdd, Nat.reduceLeDiff, ↓reduceIte, reduceCtorEq, Int.reduceBEq, Int.reduceBNe, Int.reduceLT, Int.reduceLE, Int.reduceGT, Int.reduceGE, Int.reduceNeg, Int.reduceAdd, Int.reduceSub, Nat.reduceMul, Nat.reduceLT, Int.reduceToNat, t1, t2, t5, t6, g0, g1, bne' hf]
      rw [← hmf] at hO
      refine i_callA (fs := []) (cs := []) (fid := 133) ?_ ?_ (rev_out hO hX (by rw [hmf]; omega)) ?_
      · rfl
      · simp -implicitDefEqProofs only [go_sem, Nat.reduceEqDiff, Nat.reduceAdd, Nat.reduceLeDiff, ↓reduceIte, reduceCtorEq, Int.reduceBEq, Int.reduceBNe, Int.reduceLT, Int.reduceLE, Int.reduceGT, Int.reduceGE, Int.reduceNeg, Int.reduceAdd, Int.reduceSub, Nat.reduceMul, Nat.reduceLT, Int.reduceToNat, t5]
      rintro z H3 ⟨l', hO', hX', hn3, hk3⟩
      have y0 : H3.get H.next = some (.cells [aint f, aint n, abl hid, .v (.string s), lx, kx]) := (hk3 _ (fun h => by have := (hO.blk h).1; omega)).trans g0
      have y1 : H3.get (H.next + 1) = some (.cells z6) := (hk3 _ (fun h => by have := (hO.blk h).1; omega)).trans g1
      have hO2' := hO2.keepB (H' := H3) (by omega) fun b hb => hk3 b fun h => hTw b h hb
      have hE3 : Ext H H3 := ⟨by have := hE.1; omega, fun b hb => (hk3 b (fun h => by have := (hO.blk h).1; omega)).trans (hE.2 b hb)⟩
      simp -implicitDefEqProofs only [go_sem, Nat.reduceEqDiff, Nat.reduceAdd, Nat.reduceLeDiff, ↓reduceIte, reduceCtorEq, Int.reduceBEq, Int.reduceBNe, Int.reduceLT, Int.reduceLE, Int.reduceGT, Int.reduceGE, Int.reduceNeg, Int.reduceAdd, Int.reduceSub, Nat.reduceMul, Nat.reduceLT, Int.reduceToNat, t1, t2, t5, t6]
      rw [← hmg] at hO2'
      refine i_callA (fs := []) (cs := []) (fid := 134) ?_ ?_ (rev1_out hO2' (by rw [hmg]; omega)) ?_
      · rfl
      · simp -implicitDefEqProofs only [go_sem, Nat.reduceEqDiff, Nat.reduceAdd, Nat.reduceLeDiff, ↓reduceIte, reduceCtorEq, Int.reduceBEq, Int.reduceBNe, Int.reduceLT, Int.reduceLE, Int.reduceGT, Int.reduceGE, Int.reduceNeg, Int.reduceAdd, Int.reduceSub, Nat.reduceMul, Nat.reduceLT, Int.reduceToNat, t6]
      rintro z H4 ⟨hO3, hn4, hk4⟩
      have z0 : H4.get H.next = some (.cells [aint f, aint n, abl hid, .v (.string s), lx, kx]) := (hk4 _ (fun h => by have := (hO2'.blk h).1; omega)).trans y0
      have z1 : H4.get (H.next + 1) = some (.cells z6) := (hk4 _ (fun h => by have := (hO2'.blk h).1; omega)).trans y1
      have hO4 := hO'.keepB (H' := H4) (by omega) fun b hb => hk4 b (hTw b hb)
      have hE4 : Ext H H4 := ⟨by have := hE3.1; omega, fun b hb => (hk4 b (fun h => by have := (hO2'.blk h).1; omega)).trans (hE3.2 b hb)⟩
      simp -implicitDefEqProofs only [go_sem, Nat.reduceEqDiff, Nat.reduceAdd, Nat.reduceLeDiff, ↓reduceIte, reduceCtorEq, Int.reduceBEq, Int.reduceBNe, Int.reduceLT, Int.reduceLE, Int.reduceGT, Int.reduceGE, Int.reduceNeg, Int.reduceAdd, Int.reduceSub, Nat.reduceMul, Nat.reduceLT, Int.reduceToNat, t1, t2, t5, t6, z0, z1, q1, q2, q3, q4, e1, e2]
      have r1 : (spT t).map (·.1) = (d.map (·.1)).reverse := by rw [hsp, List.map_reverse]
      have r2 : (spT t).map (·.2) = (d.map (·.2)).reverse := by rw [hsp, List.map_reverse]
      rw [r1, r2, hlen, hhd]
      rw [hmf] at hO4
      rw [hmg] at hO3
      exact ⟨_, x, y, l', rfl, hu', (hO4.set (hO4.notlow (by omega)) _).low (by omega), hX', (hO3.set (hO3.notlow (by omega)) _).low (by omega), hTw, hE4.set (by omega) _, hdl'⟩
    subst hf
    simp only [Tm.All, Ap, Tm.form, Tm.kids] at hap
    have hk2l : ks.length = 2 := hap.1 trivial
    obtain ⟨k0, k1, rfl⟩ : ∃ a b, ks = [a, b] := by
      match ks, hk2l with
      | [a, b], _ => exact ⟨a, b, rfl⟩
    simp only [Tm.AllL] at hap
    have hcso : ∀ y ∈ cs, Old 0 y := by
      rcases hk1 with ⟨h, _⟩ | ⟨lo, ex, rfl, _⟩
      · simp at h
      · have hko : Old 0 _ := hu'.2 _ (by simp : (AV.ro 2 lo ex cs) ∈ [aint 5, aint n, abl hid, .v (.string s), lx, AV.ro 2 lo ex cs])
        cases hko with | ro _ _ _ _ h => exact h
    have hix0 := hk1.aix 6 (i := 0) (by simp)
    have hix1 := hk1.aix 6 (i := 1) (by simp)
    obtain ⟨kc0, hkc0, hle0, hld0⟩ := hk2.load (i := 0) (k := k0) rfl
    obtain ⟨kc1, hkc1, hle1, hld1⟩ := hk2.load (i := 1) (k := k1) rfl
    have hP0 : TmP k0 kc0 := ⟨hkc0, fun y hy => hcso y (by rw [← hld0] at hy; exact List.mem_of_mem_drop (List.mem_of_mem_take hy))⟩
    have hP1 : TmP k1 kc1 := ⟨hkc1, fun y hy => hcso y (by rw [← hld1] at hy; exact List.mem_of_mem_drop (List.mem_of_mem_take hy))⟩
    have i0 : aix 6 (0 : Int) kx = some (.rop cs 0) := hix0
    have i1 : aix 6 (1 : Int) kx = some (.rop cs 6) := hix1
    have l0 : 0 + 6 ≤ cs.length := by omega
    have l0' : 6 ≤ cs.length := by omega
    have l1 : 6 + 6 ≤ cs.length := by omega
    have l1' : 12 ≤ cs.length := by omega
    have d0 : cs.take 6 = kc0 := by simpa using hld0
    have d1 : (cs.drop 6).take 6 = kc1 := by simpa using hld1
    obtain ⟨ux, vx, hk6, o1, o2, o3, o4, o5, o6, o7, o8⟩ := hP1.six
    obtain ⟨wx, zx, hk7, s1, s2, s3, s4, s5, s6, s7, s8⟩ := hP0.six
    have m0 : ¬ H.next = H2.next := by omega
    have m1 : ¬ H.next + 1 = H2.next := by omega
    have m2 : ¬ H.next = H2.next + 1 := by omega
    have m3 : ¬ H.next + 1 = H2.next + 1 := by omega
    have m4 : ¬ H2.next = H2.next + 1 := by omega
    have m5 : ¬ H2.next + 1 = H2.next := by omega
    have m6 : ¬ H.next + 1 = H.next := by omega
    have hsz : szT (.mk 5 n hid s lv [k0, k1]) = 1 + (szT k0 + szT k1) := by simp [szT, szK]
    subst hk6 hk7
    simp -implicitDefEqProofs only [go_sem, Nat.reduceEqDiff, Nat.reduceAdd, Nat.reduceLeDiff, ↓reduceIte, reduceCtorEq, Int.reduceBEq, Int.reduceBNe, Int.reduceLT, Int.reduceLE, Int.reduceGT, Int.reduceGE, Int.reduceNeg, Int.reduceAdd, Int.reduceSub, Nat.reduceMul, Nat.reduceLT, Int.reduceToNat, t1, t2, t5, t6, g0, g1, i0, i1, l0, l0', l1, l1', d0, d1, o1, o2, o3, o4, s1, s2, s3, s4, q1, q2, q3, q4, m0, m1, m2, m3, m4, m5, m6, afill, hO.one, hO.cells, hO2.one, hO2.cells]
    refine ((hO.new _).new _).stepN (m := 1) (new := [aint k1.form, aint k1.n, abl k1.hid, .v (.string k1.name), ux, vx]) (asrc_slc (c := [aint k1.form, aint k1.n, abl k1.hid, .v (.string k1.name), ux, vx]) (by rw [new_get, if_neg (by simp only [new_next]; omega), new_get]; exact if_pos rfl) (by simp)) o8 (by omega) (by omega) ⟨by omega, by omega⟩ rfl fun x' G' r6 r7 r8 => ?_
    simp only [new_next] at r6 r7
    have hGx : ∀ b, b < H2.next → avBlock x ≠ some b → G'.get b = H2.get b := fun b hb hx => by
      rw [r8 b (by simp only [new_next]; omega) (hO.slcb hx), new_get, if_neg (by simp only [new_next]; omega), new_get, if_neg (by omega)]
    have u0 := (hGx _ (by omega) (fun h => by have := (hO.blk h).1; omega)).trans g0
    have u1 := (hGx _ (by omega) (fun h => by have := (hO.blk h).1; omega)).trans g1
    have u2 : G'.get (H2.next + 1) = some (.cells [abl hid]) := by
      rw [r8 _ (by simp only [new_next]; omega) (hO.high (by omega)), new_get]; exact if_pos rfl
    have hO2' := hO2.keepB (H' := G') (by omega) fun b hb => hGx b (hO2.blk hb).2 fun h => hTw b h hb
    have hEG : Ext H G' := ⟨by have := hE.1; omega, fun b hb => (hGx b (by omega) (fun h => by have := (hO.blk h).1; omega)).trans (hE.2 b hb)⟩
    simp -implicitDefEqProofs only [go_sem, Nat.reduceEqDiff, Nat.reduceAdd, Nat.reduceLeDiff, ↓reduceIte, reduceCtorEq, Int.reduceBEq, Int.reduceBNe, Int.reduceLT, Int.reduceLE, Int.reduceGT, Int.reduceGE, Int.reduceNeg, Int.reduceAdd, Int.reduceSub, Nat.reduceMul, Nat.reduceLT, Int.reduceToNat, t1, t2, t5, t6, u0, u1, u2, hO2.one, hO2.cells, r6.one, r6.cells]
    refine hO2'.stepN (m := 1) (new := [abl hid]) (asrc_slc (c := [abl hid]) u2 (by simp)) rfl (by omega) (by omega) ⟨by omega, by omega⟩ rfl fun y' G2 v6 v7 v8 => ?_
    have hG2 : ∀ b, b < G'.next → avBlock y ≠ some b → G2.get b = G'.get b := fun b hb hy => v8 b hb (hO2'.slcb hy)
    have w0 := (hG2 _ (by omega) (fun h => by have := (hO2.blk h).1; omega)).trans u0
    have w1 := (hG2 _ (by omega) (fun h => by have := (hO2.blk h).1; omega)).trans u1
    have r6' := r6.keepB (H' := G2) v7 fun b hb => hG2 b (r6.blk hb).2 fun h => by have := (hO2.blk h).2; have := (r6.blk hb).1; omega
    have hEG2 : Ext H G2 := ⟨by have := hEG.1; omega, fun b hb => (hG2 b (by omega) (fun h => by have := (hO2.blk h).1; omega)).trans (hEG.2 b hb)⟩
    have hTw2 : Two x' y' := fun b h1 h2 => by have := (r6.blk h1).2; have := (v6.blk h2).1; omega
    simp -implicitDefEqProofs only [go_sem, Nat.reduceEqDiff, Nat.reduceAdd, Nat.reduceLeDiff, ↓reduceIte, reduceCtorEq, Int.reduceBEq, Int.reduceBNe, Int.reduceLT, Int.reduceLE, Int.reduceGT, Int.reduceGE, Int.reduceNeg, Int.reduceAdd, Int.reduceSub, Nat.reduceMul, Nat.reduceLT, Int.reduceToNat, t1, t2, w0, w1, i0, i1, l0, l0', l1, l1', d0, d1, s1, s2, s3, s4, q1, q2, q3, q4, m6]
    have hhd2 : hdT (.mk 5 n hid s lv [k0, k1]) = hdT k0 := by rw [hdT, if_pos rfl]; rfl
    have hsp2 : spT (.mk 5 n hid s lv [k0, k1]) = spT k0 ++ [(k1, hid)] := by rw [spT, if_pos rfl]; rfl
    refine ⟨szT k0, by omega, k0, _, d ++ [(k1, hid)], x', y', l ++ [aint k1.form, aint k1.n, abl k1.hid, .v (.string k1.name), ux, vx], rfl, rfl, rfl, by omega, hEG2.set (by omega) _, rfl, hap.2.1, hP0, hhd.trans hhd2, ?_, by simp only [List.length_append, List.length_cons, List.length_nil]; omega, ?_, ?_, ?_, hTw2⟩
    · rw [hsp, hsp2, List.reverse_append]; simp
    · rw [List.length_append]
      exact (r6'.set (r6'.notlow (by omega)) _).low (by omega)
    · rw [List.map_append]
      exact hX.snoc hP1
    · have hh : hidC ((d ++ [(k1, hid)]).map (·.2)) = hidC (d.map (·.2)) ++ [abl hid] := by simp [hidC]
      rw [List.length_append, hh]
      exact (v6.set (v6.notlow (by omega)) _).low (by omega)
end Go.Proofs.Ytooaiddfokbffaa.E

/- tele.Spine, as the code does it. Conditions: none. -/
set_option linter.unusedVariables false
set_option linter.unusedSimpArgs false
namespace Go.Proofs.Ytooaiddfokbffaa.E
open Go Go.Proofs
attribute [local go_sem] s_seq s_ops s_draw s_block s_skip s_ret s_exit i_nil i_cons i_run i_runG s_condQ c_true c_false aop ev_t ev_c updO_at updO_no upd_at t_normal t_ret t_exit b_normal b_ret b_exit a_some ac_v ac_agg ac_ptr ac_slc ac_ro ac_rop ac_fn new_next set_next argTm_zero argTm_succ argTm_nil ab_bool ab_uv beq_self_eq_true Option.some_beq_some Bool.not_not beq_iff_eq decide_true decide_false Bool.not_true Bool.not_false afld aload astore apack alen_str alen_ro alen_slc alen_nil new_get set_get ite_true ite_false Option.map_some Option.bind_some ibin isShift Nat.add_zero Nat.zero_add List.length_cons List.length_nil List.drop_zero List.drop_succ_cons List.take_succ_cons List.take_zero if_true if_false setL List.set_cons_zero List.set_cons_succ List.all_cons List.all_nil one_int one_bool one_str one_nil one_ptr one_slc one_ro one_rop one_fn Bool.and_self Bool.and_true true_and and_true and_self Bool.false_eq_true post_ret post_normal resAll resOne packR Option.some.injEq exists_eq_left' List.map_cons List.map_nil List.nil_append List.append_nil List.cons_append d_nil d_cons k_nil k_cons g_op g_same g_new avBlock forall_eq' List.getElem?_cons_succ List.getElem?_cons_zero List.getElem?_nil okind gOk bne false_imp_iff forall_const imp_self implies_true true_imp_iff i_callG

theorem KsX.at {ks : List Tm} {l : List AV} (h : KsX ks l) {i : Nat} (hi : i < ks.length) : ∃ c, (l.drop (i * 6)).take 6 = c ∧ i * 6 + 6 ≤ l.length ∧ TmP ks[i] c := by
  obtain ⟨ps, h1, h2, h3⟩ := ksX_iff.1 h
  have hi' : i < ps.length := by omega
  obtain ⟨q1, q2⟩ := h1.at hi'
  exact ⟨ps[i], q1, q2, h3 i _ _ (List.getElem?_eq_getElem hi) (List.getElem?_eq_getElem hi')⟩
theorem KsX.set {ks : List Tm} {l : List AV} (h : KsX ks l) {i : Nat} (hi : i < ks.length) {k : Tm} {c : List AV} (hc : TmP k c) : KsX (ks.set i k) (setL l (i * 6) c) := by
  obtain ⟨ps, h1, h2, h3⟩ := ksX_iff.1 h
  refine ksX_iff.2 ⟨_, h1.set (by omega) hc.1.len, by simp [h2], fun j k' p hk hp => ?_⟩
  by_cases hj : j = i
  · subst hj
    rw [List.getElem?_set_self hi] at hk
    rw [List.getElem?_set_self (by omega)] at hp
    cases hk; cases hp
    exact hc
  · rw [List.getElem?_set_ne (fun h => hj h.symm)] at hk hp
    exact h3 j k' p hk hp
def mixK (ks : List Tm) (i : Nat) : List Tm := cleanK (ks.take i) ++ ks.drop i
theorem mixK_len (ks : List Tm) (i : Nat) : (mixK ks i).length = ks.length := by
  unfold mixK
  rw [List.length_append, cleanK_len, List.length_take, List.length_drop]; omega
theorem mixK_at {ks : List Tm} {i : Nat} (hi : i < ks.length) : (mixK ks i)[i]? = some ks[i] := by
  have hl : (cleanK (ks.take i)).length = i := by rw [cleanK_len, List.length_take]; omega
  unfold mixK
  rw [List.getElem?_append_right (by omega), hl, Nat.sub_self, List.getElem?_drop, Nat.add_zero, List.getElem?_eq_getElem hi]
theorem mixK_step {ks : List Tm} {i : Nat} (hi : i < ks.length) : (mixK ks i).set i (cleanT ks[i]) = mixK ks (i + 1) := by
  have hl : (cleanK (ks.take i)).length = i := by rw [cleanK_len, List.length_take]; omega
  unfold mixK
  rw [cleanK_take ks i hi, List.drop_eq_getElem_cons hi, List.set_append_right _ _ (by omega), hl, Nat.sub_self, List.set_cons_zero, List.append_assoc]
  rfl

mutual
theorem spT_all {p : Tm → Prop} : ∀ t, Tm.All p t → ∀ x ∈ spT t, Tm.All p x.1
  | .mk f n h s lv ks, ha, x, hx => by
    rw [spT] at hx
    split at hx
    · simp only [Tm.All] at ha
      exact spK_all ks ha.2 h x hx
    · cases hx
theorem spK_all {p : Tm → Prop} : ∀ ks, Tm.AllL p ks → ∀ h, ∀ x ∈ spK h ks, Tm.All p x.1
  | [], _, h, x, hx => by rw [spK] at hx; cases hx
  | k :: r, ha, h, x, hx => by
    simp only [Tm.AllL] at ha
    cases r with
    | nil =>
      have hx : x ∈ spT k ++ [] := hx
      rw [List.append_nil] at hx
      exact spT_all k ha.1 x hx
    | cons a r =>
      have hx : x ∈ spT k ++ [(a, h)] := hx
      rcases List.mem_append.1 hx with hx | hx
      · exact spT_all k ha.1 x hx
      · simp only [Tm.AllL] at ha
        simp at hx
        rw [hx]
        exact ha.2.1
end
mutual
theorem hdT_all {p : Tm → Prop} : ∀ t, Tm.All p t → Tm.All p (hdT t)
  | .mk f n h s lv ks, ha => by
    rw [hdT]
    split
    · cases ks with
      | nil => exact ha
      | cons k r =>
        simp only [Tm.All, Tm.AllL] at ha
        exact hdT_all k ha.2.1
    · exact ha
end
mutual
theorem spT_sz : ∀ t, ∀ x ∈ spT t, szT x.1 ≤ szT t ∧ htT x.1 ≤ htT t
  | .mk f n h s lv ks, x, hx => by
    rw [spT] at hx
    split at hx
    · have := spK_sz ks h x hx
      simp only [szT, htT]; omega
    · cases hx
theorem spK_sz : ∀ ks, ∀ h, ∀ x ∈ spK h ks, szT x.1 ≤ szK ks ∧ htT x.1 ≤ htK ks
  | [], h, x, hx => by rw [spK] at hx; cases hx
  | k :: r, h, x, hx => by
    cases r with
    | nil =>
      have hx : x ∈ spT k ++ [] := hx
      rw [List.append_nil] at hx
      have := spT_sz k x hx
      simp only [szK, htK]; omega
    | cons a r =>
      have hx : x ∈ spT k ++ [(a, h)] := hx
      rcases List.mem_append.1 hx with hx | hx
      · have := spT_sz k x hx
        simp only [szK, htK]; omega
      · simp at hx
        rw [hx]
        simp only [szK, htK]; omega
end
mutual
theorem hdT_sz : ∀ t, szT (hdT t) ≤ szT t ∧ htT (hdT t) ≤ htT t
  | .mk f n h s lv ks => by
    rw [hdT]
    split
    · cases ks with
      | nil => exact ⟨Nat.le_refl _, Nat.le_refl _⟩
      | cons k r =>
        have := hdT_sz k
        simp only [hdK, szT, htT, szK, htK]; omega
    · exact ⟨Nat.le_refl _, Nat.le_refl _⟩
end

theorem HidR.one {hs : List Bool} {x : AV} (h : HidR hs x) : x.one = true := by
  rcases h with ⟨_, rfl⟩ | ⟨lo, ex, cs, rfl, _⟩ <;> rfl
theorem HidR.cells {hs : List Bool} {x : AV} (h : HidR hs x) : x.acells = [x] := by
  rcases h with ⟨_, rfl⟩ | ⟨lo, ex, cs, rfl, _⟩ <;> rfl
theorem hidC_old (n : Nat) (hs : List Bool) : ∀ y ∈ hidC hs, Old n y := by
  intro y hy
  obtain ⟨b, _, rfl⟩ := List.mem_map.1 hy
  exact .v _
theorem hid_of {hs : List Bool} {y : AV} (h : (hs.length = 0 ∧ y = .v (.slice none 0 0)) ∨ ∃ lo ex, y = .ro hs.length lo ex (hidC hs) ∧ hs.length ≤ lo) : HidR hs y := by
  rcases h with h | ⟨lo, ex, rfl, h⟩
  · exact .inl h
  · exact .inr ⟨lo, ex, _, rfl, h, by rw [List.take_of_length_le (by simp [hidC])]; rfl⟩

/-- What Spine answers. -/
def SpR (f : Tm) (ks : List Tm) (hs : List Bool) (r : AV) : Prop := ∃ c x y, r = .tup [.agg c, x, y] ∧ TmP f c ∧ SlK ks x ∧ HidR hs y

set_option maxRecDepth 100000 in
theorem spine_ok (t : Tm) (ha : Tm.All TmB t) (hc : checkF canF t = 0) (cells : List AV) (hT : TmP t cells) (H : AHeap) :
    SCall Try.prog 30 [.agg cells] H fun r H' => SpR (cleanT (hdT t)) (cleanK ((spT t).map (·.1))) ((spT t).map (·.2)) r ∧ H' = H := by
  have hT' := hT
  obtain ⟨lx0, kx0, hc6, p1, p2, p3, p4, p5, p6, p7, p8⟩ := hT.six
  subst hc6
  have e1 : ¬ H.next = H.next + 1 := by omega
  have e2 : ¬ H.next + 1 = H.next := by omega
  have hap := form_ap canF t (check_form hc).2
  obtain ⟨hz1, hz2⟩ := check_sz hc
  generalize hks : (spT t).map (·.1) = ks
  generalize hhs : (spT t).map (·.2) = hs
  have hkl : ks.length = (spT t).length := by rw [← hks]; simp
  have hhl : hs.length = (spT t).length := by rw [← hhs]; simp
  have hkb : ∀ k ∈ ks, Tm.All TmB k ∧ szT k ≤ 20000 ∧ htT k ≤ 500 := by
    intro k hk
    rw [← hks] at hk
    obtain ⟨x, hx, rfl⟩ := List.mem_map.1 hk
    have := spT_sz t x hx
    exact ⟨spT_all t ha x hx, by omega, by omega⟩
  have hfb := hdT_all t ha
  have hfz := hdT_sz t
  refine SCall.frz (R := fun r H' => Ext H H' ∧ ∃ y, FrzN H.next H' r y ∧ SpR (cleanT (hdT t)) (cleanK ks) hs y) (SCall.intro mixed cf30 ?_) (fun _ _ x H' ⟨h1, y, h2, h3⟩ _ => ⟨h1, y, h2, h3⟩)
  simp -implicitDefEqProofs only [c30, go_sem, Nat.reduceEqDiff, Nat.reduceAdd, Nat.reduceLeDiff, ↓reduceIte, reduceCtorEq, Int.reduceBEq, Int.reduceBNe, Int.reduceLT, Int.reduceLE, Int.reduceGT, Int.reduceGE, Int.reduceNeg, Int.reduceAdd, Int.reduceSub, Nat.reduceMul, Nat.reduceLT, Int.reduceToNat, p1, p2, p3, p4, e1, e2]
  refine i_callA (fs := []) (cs := []) ?_ ?_ (check_ok canF t (tmb_fine ha) _ hT'.1 _) ?_
  · rfl
  · simp -implicitDefEqProofs only [go_sem, Nat.reduceEqDiff, Nat.reduceAdd, Nat.reduceLeDiff, ↓reduceIte, reduceCtorEq, Int.reduceBEq, Int.reduceBNe, Int.reduceLT, Int.reduceLE, Int.reduceGT, Int.reduceGE, Int.reduceNeg, Int.reduceAdd, Int.reduceSub, Nat.reduceMul, Nat.reduceLT, Int.reduceToNat]
  rw [hc]
  rintro x H3 ⟨rfl, rfl⟩
  simp -implicitDefEqProofs only [go_sem, Nat.reduceEqDiff, Nat.reduceAdd, Nat.reduceLeDiff, ↓reduceIte, reduceCtorEq, Int.reduceBEq, Int.reduceBNe, Int.reduceLT, Int.reduceLE, Int.reduceGT, Int.reduceGE, Int.reduceNeg, Int.reduceAdd, Int.reduceSub, Nat.reduceMul, Nat.reduceLT, Int.reduceToNat, p1, p2, p3, p4, e1, e2]
  refine i_callA (fs := []) (cs := []) (fid := 88) ?_ ?_ (rawSpine_ok t hap hz1 _ hT' _) ?_
  · rfl
  · simp -implicitDefEqProofs only [go_sem, Nat.reduceEqDiff, Nat.reduceAdd, Nat.reduceLeDiff, ↓reduceIte, reduceCtorEq, Int.reduceBEq, Int.reduceBNe, Int.reduceLT, Int.reduceLE, Int.reduceGT, Int.reduceGE, Int.reduceNeg, Int.reduceAdd, Int.reduceSub, Nat.reduceMul, Nat.reduceLT, Int.reduceToNat]
  rw [hks, hhs]
  rintro r H1 ⟨c, x, y, l, rfl, hcf, hO, hX, hO2, hTw, hE1, hle⟩
  obtain ⟨ux, vx, hk6, o1, o2, o3, o4, o5, o6, o7, o8⟩ := hcf.six
  have hn1 : H.next + 2 ≤ H1.next := hE1.1
  have g1 : H1.get (H.next + 1) = some (.cells z6) := by
    rw [hE1.2 _ (by simp only [new_next]; omega), new_get]; exact if_pos rfl
  have hEH : Ext H H1 := Ext.trans (((Ext.refl H).new _).new _) hE1
  simp only [new_next] at hO hO2
  subst hk6
  have m1 : ¬ H.next + 1 = H1.next := by omega
  have m2 : ¬ H1.next = H.next + 1 := by omega
  rw [← hkl] at hO hO2 hle
  simp -implicitDefEqProofs only [go_sem, Nat.reduceEqDiff, Nat.reduceAdd, Nat.reduceLeDiff, ↓reduceIte, reduceCtorEq, Int.reduceBEq, Int.reduceBNe, Int.reduceLT, Int.reduceLE, Int.reduceGT, Int.reduceGE, Int.reduceNeg, Int.reduceAdd, Int.reduceSub, Nat.reduceMul, Nat.reduceLT, Int.reduceToNat, o1, o2, o3, o4, fun G => hO.alen G, hO.one, hO.cells, hO2.one, hO2.cells, m1, m2]
  refine swp_range ks.length (fun i st => st.tm 1 = .ptr H.next 0 ∧ st.tm 2 = .ptr (H.next + 1) 0 ∧ st.tm 5 = .ptr H1.next 0 ∧ st.tm 6 = x ∧ st.tm 7 = y ∧ st.tm 20 = x ∧ st.tm 21 = aint ks.length ∧ st.tm 22 = aint i ∧ H1.next + 1 ≤ st.heap.next ∧ Ext H st.heap ∧ st.heap.get (H.next + 1) = some (.cells z6) ∧
    st.heap.get H1.next = some (.cells [aint (hdT t).form, aint (hdT t).n, abl (hdT t).hid, .v (.string (hdT t).name), ux, vx]) ∧ ∃ l', OutS st.heap (H.next + 2) 6 ks.length l' x ∧ KsX (mixK ks i) l' ∧ OutS st.heap (H.next + 2) 1 ks.length (hidC hs) y) ?_ ?_ ?_
  · refine ⟨rfl, rfl, rfl, rfl, rfl, rfl, rfl, rfl, Nat.le_refl _, (hEH.new _).set (by omega) _, ?_, ?_, l, ?_, ?_, ?_⟩
    · simp -implicitDefEqProofs only [go_sem, Nat.reduceEqDiff, Nat.reduceAdd, Nat.reduceLeDiff, ↓reduceIte, reduceCtorEq, Int.reduceBEq, Int.reduceBNe, Int.reduceLT, Int.reduceLE, Int.reduceGT, Int.reduceGE, Int.reduceNeg, Int.reduceAdd, Int.reduceSub, Nat.reduceMul, Nat.reduceLT, Int.reduceToNat, m1, g1]
    · simp -implicitDefEqProofs only [go_sem, Nat.reduceEqDiff, Nat.reduceAdd, Nat.reduceLeDiff, ↓reduceIte, reduceCtorEq, Int.reduceBEq, Int.reduceBNe, Int.reduceLT, Int.reduceLE, Int.reduceGT, Int.reduceGE, Int.reduceNeg, Int.reduceAdd, Int.reduceSub, Nat.reduceMul, Nat.reduceLT, Int.reduceToNat]
    · exact (hO.new _).set (hO.high (Nat.le_refl _)) _
    · unfold mixK; simpa [cleanK] using hX
    · exact (hO2.new _).set (hO2.high (Nat.le_refl _)) _
  · rintro i ⟨tm, H2⟩ hi ⟨t1, t2, t5, t6, t7, t20, t21, t22, hnx, hE, y1, y2, l', hOi, hXi, hO2i⟩
    simp only at t1 t2 t5 t6 t7 t20 t21 t22 hnx hE y1 y2 hOi hO2i
    have hltI : (i : Int) < (ks.length : Int) := by omega
    have w3 : IntKind.i64.wrap ((i : Int) + 1) = (i : Int) + 1 := i64_ok _ (by omega)
    obtain ⟨b, hb1, hb2, hxs, hbg, hbl⟩ : ∃ b, H.next + 2 ≤ b ∧ b < H2.next ∧ x = .slc b 0 6 ks.length ks.length false ∧ H2.get b = some (.cells l') ∧ l'.length = ks.length * 6 := by
      rcases hOi with ⟨h0, _⟩ | h
      · omega
      · exact h
    have hbx : b < H1.next := by
      rcases hO with ⟨h0, _⟩ | ⟨b', _, h2, h3, _⟩
      · omega
      · rw [hxs] at h3; injection h3 with h3; omega
    have hix : aix 6 (i : Int) x = some (.ptr b (i * 6)) := by
      rw [hxs]; simp only [aix]
      rw [if_pos (by omega)]
      simp
    obtain ⟨kc, hld, hle6, hkP'⟩ := hXi.at (i := i) (by rw [mixK_len]; exact hi)
    have hkm := List.getElem_mem hi
    have hmx : (mixK ks i)[i]'(by rw [mixK_len]; exact hi) = ks[i] := by
      have := mixK_at hi
      rw [List.getElem?_eq_getElem (by rw [mixK_len]; exact hi)] at this
      exact Option.some.inj this
    rw [hmx] at hkP'
    obtain ⟨kb1, kb2, kb3⟩ := hkb _ hkm
    obtain ⟨ax1, bx1, hk7, s1, s2, s3, s4, s5, s6, s7, s8⟩ := hkP'.six
    have n1 : ¬ H.next + 1 = H2.next := by omega
    have n2 : ¬ H1.next = H2.next := by omega
    have n3 : ¬ b = H2.next := by omega
    subst hk7
    simp -implicitDefEqProofs only [go_sem, Nat.reduceEqDiff, Nat.reduceAdd, Nat.reduceLeDiff, ↓reduceIte, reduceCtorEq, Int.reduceBEq, Int.reduceBNe, Int.reduceLT, Int.reduceLE, Int.reduceGT, Int.reduceGE, Int.reduceNeg, Int.reduceAdd, Int.reduceSub, Nat.reduceMul, Nat.reduceLT, Int.reduceToNat, t1, t2, t5, t6, t7, t20, t21, t22, hltI, hix, hbg, hle6, hld, s1, s2, s3, s4, afill]
    refine i_callA (fs := []) (cs := []) (fid := 76) ?_ ?_ (copy_ok ks[i] kb1 (by omega) (by omega) _ hkP' _) ?_
    · rfl
    · simp -implicitDefEqProofs only [go_sem, Nat.reduceEqDiff, Nat.reduceAdd, Nat.reduceLeDiff, ↓reduceIte, reduceCtorEq, Int.reduceBEq, Int.reduceBNe, Int.reduceLT, Int.reduceLE, Int.reduceGT, Int.reduceGE, Int.reduceNeg, Int.reduceAdd, Int.reduceSub, Nat.reduceMul, Nat.reduceLT, Int.reduceToNat]
    rintro z H4 ⟨⟨xc, rfl, hxc⟩, hHH⟩
    have hHH := hHH.symm
    subst hHH
    have hset := hXi.set (i := i) (by rw [mixK_len]; exact hi) hxc
    rw [mixK_step hi] at hset
    obtain ⟨_, _, _, _, _, _, _, _, _, x7, x8⟩ := hxc.six
    simp -implicitDefEqProofs only [go_sem, Nat.reduceEqDiff, Nat.reduceAdd, Nat.reduceLeDiff, ↓reduceIte, reduceCtorEq, Int.reduceBEq, Int.reduceBNe, Int.reduceLT, Int.reduceLE, Int.reduceGT, Int.reduceGE, Int.reduceNeg, Int.reduceAdd, Int.reduceSub, Nat.reduceMul, Nat.reduceLT, Int.reduceToNat, t1, t2, t5, t6, t7, t20, t21, t22, hix, hbg, hle6, x7, x8, n1, n2, n3, w3]
    have hyb : avBlock y ≠ some b := hTw b (by rw [hxs]; rfl)
    refine ⟨by simp, by omega, ((hE.new _).set (by omega) _).set (by omega) _, by rw [if_neg (by omega)]; exact y1, by rw [if_neg (by omega)]; exact y2, setL l' (i * 6) xc, ?_, hset, ?_⟩
    · exact .inr ⟨b, hb1, by simp only [set_next, new_next]; omega, hxs, by rw [set_get, if_pos rfl], by rw [setL_length]; exact hbl⟩
    · exact ((hO2i.new _).set (hO2i.high (Nat.le_refl _)) _).set (hO2i.slcb hyb) _
  · rintro ⟨tm, H2⟩ ⟨t1, t2, t5, t6, t7, t20, t21, t22, hnx, hE, y1, y2, l', hOi, hXi, hO2i⟩
    simp only at t1 t2 t5 t6 t7 t20 t21 t22 hnx hE y1 y2 hOi hO2i
    simp -implicitDefEqProofs only [go_sem, Nat.reduceEqDiff, Nat.reduceAdd, Nat.reduceLeDiff, ↓reduceIte, reduceCtorEq, Int.reduceBEq, Int.reduceBNe, Int.reduceLT, Int.reduceLE, Int.reduceGT, Int.reduceGE, Int.reduceNeg, Int.reduceAdd, Int.reduceSub, Nat.reduceMul, Nat.reduceLT, Int.reduceToNat, t1, t2, t5, t6, t7, t20, t21, t22, Int.lt_irrefl, y1, y2, o1, o2, o3, o4]
    refine i_callA (fs := []) (cs := []) (fid := 76) ?_ ?_ (copy_ok (hdT t) hfb (by omega) (by omega) _ hcf _) ?_
    · rfl
    · simp -implicitDefEqProofs only [go_sem, Nat.reduceEqDiff, Nat.reduceAdd, Nat.reduceLeDiff, ↓reduceIte, reduceCtorEq, Int.reduceBEq, Int.reduceBNe, Int.reduceLT, Int.reduceLE, Int.reduceGT, Int.reduceGE, Int.reduceNeg, Int.reduceAdd, Int.reduceSub, Nat.reduceMul, Nat.reduceLT, Int.reduceToNat]
    rintro z H4 ⟨⟨xc, rfl, hxc⟩, hHH⟩
    have hHH := hHH.symm
    subst hHH
    obtain ⟨ax1, bx1, hk7, s1, s2, s3, s4, s5, s6, s7, s8⟩ := hxc.six
    subst hk7
    simp -implicitDefEqProofs only [go_sem, Nat.reduceEqDiff, Nat.reduceAdd, Nat.reduceLeDiff, ↓reduceIte, reduceCtorEq, Int.reduceBEq, Int.reduceBNe, Int.reduceLT, Int.reduceLE, Int.reduceGT, Int.reduceGE, Int.reduceNeg, Int.reduceAdd, Int.reduceSub, Nat.reduceMul, Nat.reduceLT, Int.reduceToNat, t1, t2, t5, t6, t7, y1, s1, s2, s3, s4, hOi.one, hOi.cells, hO2i.one, hO2i.cells]
    refine ⟨hE.set (by omega) _, ?_⟩
    have hm : mixK ks ks.length = cleanK ks := by unfold mixK; simp
    rw [hm] at hXi
    have hOf := hOi.set (b' := H.next + 1) (hOi.notlow (by omega)) (.cells [aint (cleanT (hdT t)).form, aint (cleanT (hdT t)).n, abl (cleanT (hdT t)).hid, .v (.string (cleanT (hdT t)).name), ax1, bx1])
    have hOg := hO2i.set (b' := H.next + 1) (hO2i.notlow (by omega)) (.cells [aint (cleanT (hdT t)).form, aint (cleanT (hdT t)).n, abl (cleanT (hdT t)).hid, .v (.string (cleanT (hdT t)).name), ax1, bx1])
    obtain ⟨zx, f1, f2⟩ := hOf.frzOld (N := H.next) (by omega) (fun y hy => (hXi.old y hy).mono (Nat.zero_le _))
    obtain ⟨zy, f3, f4⟩ := hOg.frzOld (N := H.next) (by omega) (hidC_old _ _)
    rw [← cleanK_len ks] at f2
    rw [hkl, ← hhl] at f4
    refine ⟨.tup [.agg [aint (cleanT (hdT t)).form, aint (cleanT (hdT t)).n, abl (cleanT (hdT t)).hid, .v (.string (cleanT (hdT t)).name), ax1, bx1], zx, zy], .tup _ _ rfl fun i x y hx hy => ?_, _, zx, zy, rfl, hxc, SlK.of hXi f2, hid_of f4⟩
    match i, hx, hy with
    | 0, hx, hy => simp at hx hy; subst hx hy; exact .keep _ (.agg _ fun z hz => (hxc.2 z hz).mono (Nat.zero_le _))
    | 1, hx, hy => simp at hx hy; subst hx hy; exact f1
    | 2, hx, hy => simp at hx hy; subst hx hy; exact f3
    | i + 3, hx, hy => simp at hx
end Go.Proofs.Ytooaiddfokbffaa.E

/- The reference's Spine. Conditions: none. -/
set_option linter.unusedVariables false
set_option linter.unusedSimpArgs false
namespace Go.Proofs.Ytooaiddfokbffaa.E
open Go Go.Proofs
attribute [local go_sem] s_seq s_ops s_draw s_block s_skip s_ret s_exit i_nil i_cons i_run i_runG s_condQ c_true c_false aop ev_t ev_c updO_at updO_no upd_at t_normal t_ret t_exit b_normal b_ret b_exit a_some ac_v ac_agg ac_ptr ac_slc ac_ro ac_rop ac_fn new_next set_next argTm_zero argTm_succ argTm_nil ab_bool ab_uv beq_self_eq_true Option.some_beq_some Bool.not_not beq_iff_eq decide_true decide_false Bool.not_true Bool.not_false afld aload astore apack alen_str alen_ro alen_slc alen_nil new_get set_get ite_true ite_false Option.map_some Option.bind_some ibin isShift Nat.add_zero Nat.zero_add List.length_cons List.length_nil List.drop_zero List.drop_succ_cons List.take_succ_cons List.take_zero if_true if_false setL List.set_cons_zero List.set_cons_succ List.all_cons List.all_nil one_int one_bool one_str one_nil one_ptr one_slc one_ro one_rop one_fn Bool.and_self Bool.and_true true_and and_true and_self Bool.false_eq_true post_ret post_normal resAll resOne packR Option.some.injEq exists_eq_left' List.map_cons List.map_nil List.nil_append List.append_nil List.cons_append d_nil d_cons k_nil k_cons g_op g_same g_new avBlock forall_eq' List.getElem?_cons_succ List.getElem?_cons_zero List.getElem?_nil okind gOk bne false_imp_iff forall_const imp_self implies_true true_imp_iff i_callG

theorem spT_app (n : Int) (hid : Bool) (s : ByteArray) (lv : List Lv) (k0 k1 : Tm) : spT (.mk 5 n hid s lv [k0, k1]) = spT k0 ++ [(k1, hid)] := by rw [spT, if_pos rfl]; rfl
theorem hdT_app (n : Int) (hid : Bool) (s : ByteArray) (lv : List Lv) (k0 k1 : Tm) : hdT (.mk 5 n hid s lv [k0, k1]) = hdT k0 := by rw [hdT, if_pos rfl]; rfl
theorem spT_no {f n : Int} {hid : Bool} {s : ByteArray} {lv : List Lv} {ks : List Tm} (hf : f ≠ 5) : spT (.mk f n hid s lv ks) = [] := by rw [spT, if_neg hf]
theorem hdT_no {f n : Int} {hid : Bool} {s : ByteArray} {lv : List Lv} {ks : List Tm} (hf : f ≠ 5) : hdT (.mk f n hid s lv ks) = .mk f n hid s lv ks := by rw [hdT, if_neg hf]
mutual
theorem spT_len : ∀ t, (spT t).length ≤ szT t
  | .mk f n h s lv ks => by
    rw [spT]
    split
    · have := spK_len ks h
      simp only [szT]; omega
    · simp
theorem spK_len : ∀ ks, ∀ h, (spK h ks).length ≤ szK ks + 1
  | [], h => by simp [spK]
  | k :: r, h => by
    have := spT_len k
    cases r with
    | nil =>
      have he : spK h [k] = spT k ++ [] := rfl
      rw [he, List.append_nil]; simp only [szK]; omega
    | cons a r =>
      have he : spK h (k :: a :: r) = spT k ++ [(a, h)] := rfl
      rw [he, List.length_append]; simp only [szK, List.length_cons, List.length_nil]; omega
end

/-- The two parts of an application, out of its cells. -/
theorem app_parts {n : Int} {hid : Bool} {s : ByteArray} {lv : List Lv} {ks : List Tm} {c : List AV} (hap : Tm.All Ap (.mk 5 n hid s lv ks)) (hu : TmP (.mk 5 n hid s lv ks) c) :
    ∃ (k0 k1 : Tm) (lx kx : AV) (cs kc0 kc1 : List AV), ks = [k0, k1] ∧ c = [aint 5, aint n, abl hid, .v (.string s), lx, kx] ∧ lx.one = true ∧ lx.acells = [lx] ∧ kx.one = true ∧ kx.acells = [kx] ∧ aix 6 (0 : Int) kx = some (.rop cs 0) ∧ aix 6 (1 : Int) kx = some (.rop cs 6) ∧ 12 ≤ cs.length ∧
      cs.take 6 = kc0 ∧ (cs.drop 6).take 6 = kc1 ∧ TmP k0 kc0 ∧ TmP k1 kc1 ∧ Tm.All Ap k0 := by
  simp only [Tm.All, Ap, Tm.form, Tm.kids] at hap
  have hk2l : ks.length = 2 := hap.1 trivial
  obtain ⟨k0, k1, rfl⟩ : ∃ a b, ks = [a, b] := by
    match ks, hk2l with
    | [a, b], _ => exact ⟨a, b, rfl⟩
  simp only [Tm.AllL] at hap
  obtain ⟨lx, kx, ls, cs, rfl, hl1, hl2, hk1, hk2⟩ := hu.1.six
  simp only [Tm.kids] at hk1 hk2
  have hcso : ∀ y ∈ cs, Old 0 y := by
    have hko : Old 0 kx := hu.2 kx (by simp)
    rcases hk1 with ⟨h, _⟩ | ⟨lo, ex, rfl, _⟩
    · simp at h
    · cases hko with | ro _ _ _ _ h => exact h
  have hix0 := hk1.aix 6 (i := 0) (by simp)
  have hix1 := hk1.aix 6 (i := 1) (by simp)
  obtain ⟨kc0, hkc0, hle0, hld0⟩ := hk2.load (i := 0) (k := k0) rfl
  obtain ⟨kc1, hkc1, hle1, hld1⟩ := hk2.load (i := 1) (k := k1) rfl
  have hP0 : TmP k0 kc0 := ⟨hkc0, fun y hy => hcso y (by rw [← hld0] at hy; exact List.mem_of_mem_drop (List.mem_of_mem_take hy))⟩
  have hP1 : TmP k1 kc1 := ⟨hkc1, fun y hy => hcso y (by rw [← hld1] at hy; exact List.mem_of_mem_drop (List.mem_of_mem_take hy))⟩
  exact ⟨k0, k1, lx, kx, cs, kc0, kc1, rfl, rfl, hl1.one, hl1.cells, hk1.one, hk1.cells, hix0, hix1, by omega, by simpa using hld0, by simpa using hld1, hP0, hP1, hap.2.1⟩

theorem make_bools (n : Nat) (hn : n ≤ 140737488351232) (G : AHeap) : amake [abl false] 1 G (aint n) (aint n) = some (.slc G.next 0 1 n n true, G.new (.cells (List.replicate n [abl false]).flatten)) := by
  simp only [amake]
  rw [if_pos ⟨by omega, by omega, by omega, by omega, by simp⟩]
  simp

set_option maxRecDepth 100000 in
theorem spine2_ok (t : Tm) (ha : Tm.All Ap t) (hz : szT t ≤ 20000) (cells : List AV) (hT : TmP t cells) (H : AHeap) :
    SCall Try.prog 31 [.agg cells] H fun r H' => SpR (hdT t) ((spT t).map (·.1)) ((spT t).map (·.2)) r ∧ H' = H := by
  have hT' := hT
  obtain ⟨lx0, kx0, hc6, p1, p2, p3, p4, p5, p6, p7, p8⟩ := hT.six
  have e1 : ¬ H.next = H.next + 1 := by omega
  have e2 : ¬ H.next + 1 = H.next := by omega
  have e3 : ¬ H.next = H.next + 1 + 1 := by omega
  have e4 : ¬ H.next + 1 = H.next + 1 + 1 := by omega
  have hsl := spT_len t
  refine SCall.frz (R := fun r H' => Ext H H' ∧ ∃ y, FrzN H.next H' r y ∧ SpR (hdT t) ((spT t).map (·.1)) ((spT t).map (·.2)) y) ?_ (fun _ _ x H' ⟨h1, y, h2, h3⟩ _ => ⟨h1, y, h2, h3⟩)
  subst hc6
  refine SCall.intro mixed cf31 ?_
  simp -implicitDefEqProofs only [c31, go_sem, Nat.reduceEqDiff, Nat.reduceAdd, Nat.reduceLeDiff, ↓reduceIte, reduceCtorEq, Int.reduceBEq, Int.reduceBNe, Int.reduceLT, Int.reduceLE, Int.reduceGT, Int.reduceGE, Int.reduceNeg, Int.reduceAdd, Int.reduceSub, Nat.reduceMul, Nat.reduceLT, Int.reduceToNat, p1, p2, p3, p4, e1, e2, e3, e4]
  refine swp_loop (fun k st => ∃ (u : Tm) (c : List AV) (cnt B : Nat), k = szT u ∧ st.tm 1 = .ptr H.next 0 ∧ st.tm 2 = .ptr (H.next + 1) 0 ∧ st.tm 5 = aint cnt ∧ st.tm 6 = .ptr B 0 ∧ H.next + 2 ≤ B ∧ B < st.heap.next ∧ Ext H st.heap ∧ st.heap.get H.next = some (.cells [aint t.form, aint t.n, abl t.hid, .v (.string t.name), lx0, kx0]) ∧ st.heap.get (H.next + 1) = some (.cells z6) ∧
    st.heap.get B = some (.cells c) ∧ Tm.All Ap u ∧ TmP u c ∧ (spT t).length = (spT u).length + cnt) (k := szT t) ?_ ?_
  · refine ⟨t, _, 0, H.next + 1 + 1, rfl, rfl, rfl, rfl, rfl, by omega, ?_, ((((Ext.refl H).new _).new _).new _).set (by omega) _, ?_, ?_, ?_, ha, hT', by simp⟩
    · show H.next + 1 + 1 < H.next + 1 + 1 + 1
      omega
    all_goals simp -implicitDefEqProofs only [go_sem, Nat.reduceEqDiff, Nat.reduceAdd, Nat.reduceLeDiff, ↓reduceIte, reduceCtorEq, Int.reduceBEq, Int.reduceBNe, Int.reduceLT, Int.reduceLE, Int.reduceGT, Int.reduceGE, Int.reduceNeg, Int.reduceAdd, Int.reduceSub, Nat.reduceMul, Nat.reduceLT, Int.reduceToNat, e1, e2, e3, e4]
  · rintro k ⟨tm, H2⟩ ⟨u, c, cnt, B, rfl, t1, t2, t5, t6, hB1, hB2, hE, g0, g1, gB, hap, hu, hlen⟩
    simp only at t1 t2 t5 t6 hB2 hE g0 g1 gB
    obtain ⟨f, n, hid, s, lv, ks⟩ := u
    by_cases hf : f = 5
    case neg =>
      have hlc : (spT t).length = cnt := by rw [hlen, spT_no hf]; simp
      obtain ⟨ux, vx, hk6, o1, o2, o3, o4, o5, o6, o7, o8⟩ := hu.six
      simp only [Tm.form, Tm.n, Tm.hid, Tm.name] at hk6
      subst hk6
      simp -implicitDefEqProofs only [go_sem, Nat.reduceEqDiff, Nat.reduceAdd, Nat.reduceLeDiff, ↓reduceIte, reduceCtorEq, Int.reduceBEq, Int.reduceBNe, Int.reduceLT, Int.reduceLE, Int.reduceGT, Int.reduceGE, Int.reduceNeg, Int.reduceAdd, Int.reduceSub, Nat.reduceMul, Nat.reduceLT, Int.reduceToNat, t1, t2, t5, t6, g0, g1, gB, bne' hf, fun G => make_kids cnt (by omega) G, fun G => make_bools cnt (by omega) G]
      have wc : IntKind.i64.wrap ((cnt : Int) - 1) = (cnt : Int) - 1 := i64_ok _ (by omega)
      have hre1 : (List.replicate cnt z6).flatten.length = cnt * 6 := by simp
      have hre2 : (List.replicate cnt [abl false]).flatten.length = cnt := by simp
      have n0 : ¬ H.next = H2.next := by omega
      have n1 : ¬ H.next + 1 = H2.next := by omega
      have n2 : ¬ H.next = H2.next + 1 := by omega
      have n3 : ¬ H.next + 1 = H2.next + 1 := by omega
      have n4 : ¬ H2.next = H2.next + 1 := by omega
      have n5 : ¬ H2.next + 1 = H2.next := by omega
      have n6 : ¬ H2.next = H.next := by omega
      have n7 : ¬ H2.next + 1 = H.next := by omega
      refine swp_loop (fun k st => ∃ (v : Tm) (c : List AV) (i : Nat) (l l2 : List AV) (dn : List (Tm × Bool)), k = i ∧ st.tm 1 = .ptr H.next 0 ∧ st.tm 2 = .ptr (H.next + 1) 0 ∧ st.tm 7 = .slc H2.next 0 6 cnt cnt true ∧ st.tm 8 = .slc (H2.next + 1) 0 1 cnt cnt true ∧ st.tm 9 = aint ((i : Int) - 1) ∧ H2.next + 2 ≤ st.heap.next ∧ Ext H st.heap ∧
        st.heap.get H.next = some (.cells c) ∧ st.heap.get (H.next + 1) = some (.cells z6) ∧ st.heap.get H2.next = some (.cells l) ∧ l.length = cnt * 6 ∧ st.heap.get (H2.next + 1) = some (.cells l2) ∧ l2.length = cnt ∧ Tm.All Ap v ∧ TmP v c ∧ hdT t = hdT v ∧ spT t = spT v ++ dn ∧ (spT v).length = i ∧
        KsX (dn.map (·.1)) (l.drop (i * 6)) ∧ l2.drop i = hidC (dn.map (·.2))) (k := cnt) ?_ ?_
      · refine ⟨t, _, cnt, _, _, [], rfl, ?_, ?_, rfl, rfl, ?_, Nat.le_refl _, (hE.new _).new _, ?_, ?_, ?_, hre1, ?_, hre2, ha, hT', rfl, by simp, hlc, ?_, ?_⟩
        · simp -implicitDefEqProofs only [go_sem, Nat.reduceEqDiff, Nat.reduceAdd, Nat.reduceLeDiff, ↓reduceIte, reduceCtorEq, Int.reduceBEq, Int.reduceBNe, Int.reduceLT, Int.reduceLE, Int.reduceGT, Int.reduceGE, Int.reduceNeg, Int.reduceAdd, Int.reduceSub, Nat.reduceMul, Nat.reduceLT, Int.reduceToNat, t1]
        · simp -implicitDefEqProofs only [go_sem, Nat.reduceEqDiff, Nat.reduceAdd, Nat.reduceLeDiff, ↓reduceIte, reduceCtorEq, Int.reduceBEq, Int.reduceBNe, Int.reduceLT, Int.reduceLE, Int.reduceGT, Int.reduceGE, Int.reduceNeg, Int.reduceAdd, Int.reduceSub, Nat.reduceMul, Nat.reduceLT, Int.reduceToNat, t2]
        · simp -implicitDefEqProofs only [go_sem, Nat.reduceEqDiff, Nat.reduceAdd, Nat.reduceLeDiff, ↓reduceIte, reduceCtorEq, Int.reduceBEq, Int.reduceBNe, Int.reduceLT, Int.reduceLE, Int.reduceGT, Int.reduceGE, Int.reduceNeg, Int.reduceAdd, Int.reduceSub, Nat.reduceMul, Nat.reduceLT, Int.reduceToNat, wc]
        · simp -implicitDefEqProofs only [go_sem, Nat.reduceEqDiff, Nat.reduceAdd, Nat.reduceLeDiff, ↓reduceIte, reduceCtorEq, Int.reduceBEq, Int.reduceBNe, Int.reduceLT, Int.reduceLE, Int.reduceGT, Int.reduceGE, Int.reduceNeg, Int.reduceAdd, Int.reduceSub, Nat.reduceMul, Nat.reduceLT, Int.reduceToNat, n0, n2, g0]
        · simp -implicitDefEqProofs only [go_sem, Nat.reduceEqDiff, Nat.reduceAdd, Nat.reduceLeDiff, ↓reduceIte, reduceCtorEq, Int.reduceBEq, Int.reduceBNe, Int.reduceLT, Int.reduceLE, Int.reduceGT, Int.reduceGE, Int.reduceNeg, Int.reduceAdd, Int.reduceSub, Nat.reduceMul, Nat.reduceLT, Int.reduceToNat, n1, n3, g1]
        · simp -implicitDefEqProofs only [go_sem, Nat.reduceEqDiff, Nat.reduceAdd, Nat.reduceLeDiff, ↓reduceIte, reduceCtorEq, Int.reduceBEq, Int.reduceBNe, Int.reduceLT, Int.reduceLE, Int.reduceGT, Int.reduceGE, Int.reduceNeg, Int.reduceAdd, Int.reduceSub, Nat.reduceMul, Nat.reduceLT, Int.reduceToNat, n4]
        · simp -implicitDefEqProofs only [go_sem, Nat.reduceEqDiff, Nat.reduceAdd, Nat.reduceLeDiff, ↓reduceIte, reduceCtorEq, Int.reduceBEq, Int.reduceBNe, Int.reduceLT, Int.reduceLE, Int.reduceGT, Int.reduceGE, Int.reduceNeg, Int.reduceAdd, Int.reduceSub, Nat.reduceMul, Nat.reduceLT, Int.reduceToNat]
        · rw [List.drop_of_length_le (by omega)]; rfl
        · rw [List.drop_of_length_le (by omega)]; rfl
      · rintro k ⟨tm, H5⟩ ⟨v, c, i, l, l2, dn, rfl, t1, t2, t7, t8, t9, hnx, hE5, x0, x1, x2, hl, x3, hl2, hapv, hv, hhd, hsp, hsl2, hKX, hHC⟩
        simp only at t1 t2 t7 t8 t9 hnx hE5 x0 x1 x2 x3
        have hcd : cnt = k + dn.length := by rw [← hlc, hsp, List.length_append, hsl2]
        obtain ⟨vf, vn, vh, vs, vlv, vks⟩ := v
        cases k with
        | zero =>
          have hge : ¬ (((0 : Nat) : Int) - 1 ≥ 0) := by omega
          obtain ⟨cx, dx, hk8, r1, r2, r3, r4, r5, r6, r7, r8⟩ := hv.six
          subst hk8
          simp -implicitDefEqProofs only [go_sem, Nat.reduceEqDiff, Nat.reduceAdd, Nat.reduceLeDiff, ↓reduceIte, reduceCtorEq, Int.reduceBEq, Int.reduceBNe, Int.reduceLT, Int.reduceLE, Int.reduceGT, Int.reduceGE, Int.reduceNeg, Int.reduceAdd, Int.reduceSub, Nat.reduceMul, Nat.reduceLT, Int.reduceToNat, t1, t2, t7, t8, t9, hge, x0, x1, x2, x3, r1, r2, r3, r4, e1, e2, n6, n7]
          have hvf : ¬ vf = 5 := by
            rintro rfl
            obtain ⟨k0, k1, _, _, _, _, _, rfl, _⟩ := app_parts hapv hv
            rw [spT_app] at hsl2
            simp at hsl2
          have hsv : spT (.mk vf vn vh vs vlv vks) = [] := spT_no hvf
          rw [hsv, List.nil_append] at hsp
          rw [hdT_no hvf] at hhd
          rw [hhd, hsp]
          rw [Nat.zero_mul, List.drop_zero] at hKX
          rw [List.drop_zero] at hHC
          have hcd' : cnt = dn.length := by omega
          refine ⟨hE5.set (by omega) _, .tup [.agg [aint (Tm.mk vf vn vh vs vlv vks).form, aint (Tm.mk vf vn vh vs vlv vks).n, abl (Tm.mk vf vn vh vs vlv vks).hid, .v (.string (Tm.mk vf vn vh vs vlv vks).name), cx, dx], .ro cnt cnt true l, .ro cnt cnt true l2], .tup _ _ rfl fun i x y hx hy => ?_, _, _, _, rfl, hv, SlK.of hKX (.inr ⟨cnt, true, by rw [List.length_map, hcd'], by rw [List.length_map, hcd']; exact Nat.le_refl _⟩), hid_of (.inr ⟨cnt, true, by rw [List.length_map, hcd', hHC], by rw [List.length_map, hcd']; exact Nat.le_refl _⟩)⟩
          have frow : ∀ (b es n : Nat) (q : List AV), H.next ≤ b → (H5.set (H.next + 1) (.cells [aint (Tm.mk vf vn vh vs vlv vks).form, aint (Tm.mk vf vn vh vs vlv vks).n, abl (Tm.mk vf vn vh vs vlv vks).hid, .v (.string (Tm.mk vf vn vh vs vlv vks).name), cx, dx])).get b = some (.cells q) → (∀ y ∈ q, Old 0 y) →
              FrzN H.next (H5.set (H.next + 1) (.cells [aint (Tm.mk vf vn vh vs vlv vks).form, aint (Tm.mk vf vn vh vs vlv vks).n, abl (Tm.mk vf vn vh vs vlv vks).hid, .v (.string (Tm.mk vf vn vh vs vlv vks).name), cx, dx])) (.slc b 0 es n n true) (.ro n n true q) := fun b es n q h1 h2 h3 => by
            refine .slc b 0 es n n true q q h2 h1 (by omega) fun i x y hx hy => ?_
            rw [Nat.zero_add] at hx
            rw [hx] at hy
            injection hy with hy
            subst hy
            exact .keep _ ((h3 x (List.mem_of_getElem? hx)).mono (Nat.zero_le _))
          match i, hx, hy with
          | 0, hx, hy => simp at hx hy; subst hx hy; exact .keep _ (.agg _ fun z hz => (hv.2 z hz).mono (Nat.zero_le _))
          | 1, hx, hy => simp at hx hy; subst hx hy; exact frow _ _ _ _ (by omega) (by rw [set_get, if_neg (by omega)]; exact x2) hKX.old
          | 2, hx, hy => simp at hx hy; subst hx hy; exact frow _ _ _ _ (by omega) (by rw [set_get, if_neg (by omega)]; exact x3) (by rw [hHC]; exact hidC_old 0 _)
          | i + 3, hx, hy => simp at hx
        | succ j =>
          have hge : (((j + 1 : Nat) : Int) - 1 ≥ 0) := by omega
          have hvf : vf = 5 := by
            rcases Classical.em (vf = 5) with h | h
            · exact h
            · rw [spT_no h] at hsl2; simp at hsl2
          subst hvf
          obtain ⟨k0, k1, lx, kx, cs, kc0, kc1, rfl, rfl, q1, q2, q3, q4, i0, i1, l1, d0, d1, hP0, hP1, hap0⟩ := app_parts hapv hv
          obtain ⟨wx, zx, hk7, s1, s2, s3, s4, s5, s6, s7, s8⟩ := hP0.six
          obtain ⟨_, _, _, _, _, _, _, _, _, y7, y8⟩ := hP1.six
          subst hk7
          have l0 : 6 ≤ cs.length := by omega
          have l1' : 6 + 6 ≤ cs.length := by omega
          have hjx : aix 6 (((j + 1 : Nat) : Int) - 1) (.slc H2.next 0 6 cnt cnt true) = some (.ptr H2.next (j * 6)) := by
            simp only [aix]
            rw [if_pos (by omega)]
            simp
          have hjx1 : aix 1 (((j + 1 : Nat) : Int) - 1) (.slc (H2.next + 1) 0 1 cnt cnt true) = some (.ptr (H2.next + 1) j) := by
            simp only [aix]
            rw [if_pos (by omega)]
            simp
          have hj6 : j * 6 + 6 ≤ l.length := by omega
          have hj1 : j + 1 ≤ l2.length := by omega
          have wj : IntKind.i64.wrap (((j + 1 : Nat) : Int) - 1 - 1) = ((j + 1 : Nat) : Int) - 1 - 1 := i64_ok _ (by omega)
          simp -implicitDefEqProofs only [go_sem, Nat.reduceEqDiff, Nat.reduceAdd, Nat.reduceLeDiff, ↓reduceIte, reduceCtorEq, Int.reduceBEq, Int.reduceBNe, Int.reduceLT, Int.reduceLE, Int.reduceGT, Int.reduceGE, Int.reduceNeg, Int.reduceAdd, Int.reduceSub, Nat.reduceMul, Nat.reduceLT, Int.reduceToNat, t1, t2, t7, t8, t9, hge, x0, x1, x2, x3, hjx, hjx1, hj6, hj1, i0, i1, l0, l1, l1', d0, d1, q1, q2, q3, q4, s1, s2, s3, s4, y7, y8, n0, n1, n2, n3, n4, n5, n6, n7, wj]
          rw [spT_app] at hsp hsl2
          rw [hdT_app] at hhd
          have hse := setL_eq kc1 l (j * 6) (by rw [hP1.1.len]; omega)
          have hjl : j < l2.length := by omega
          refine ⟨j, by omega, k0, _, j, setL l (j * 6) kc1, l2.set j (abl vh), (k1, vh) :: dn, rfl, ?_, hnx, ((hE5.set (by omega) _).set (by omega) _).set (by omega) _, rfl, by rw [if_neg e2], rfl, by rw [setL_length]; exact hl, rfl, by rw [List.length_set]; exact hl2, hap0, hP0, hhd, by rw [hsp]; simp, by simp at hsl2; exact hsl2, ?_, ?_⟩
          · rw [show ((j + 1 : Nat) : Int) - 1 - 1 = (j : Int) - 1 by omega]
          · rw [hse, List.append_assoc, List.drop_append_of_le_length (by rw [List.length_take]; omega), List.drop_of_length_le (by rw [List.length_take]; omega), List.nil_append, hP1.1.len]
            refine ⟨kc1, _, rfl, hP1, ?_⟩
            have h6 : j * 6 + 6 = (j + 1) * 6 := by omega
            rw [h6]
            exact hKX
          · rw [List.drop_eq_getElem_cons (by rw [List.length_set]; exact hjl), List.getElem_set_self, List.drop_set_of_lt (by omega), hHC]
            rfl
    subst hf
    obtain ⟨k0, k1, lx, kx, cs, kc0, kc1, rfl, rfl, q1, q2, q3, q4, i0, i1, l1, d0, d1, hP0, hP1, hap0⟩ := app_parts hap hu
    obtain ⟨wx, zx, hk7, s1, s2, s3, s4, s5, s6, s7, s8⟩ := hP0.six
    subst hk7
    have l0 : 6 ≤ cs.length := by omega
    have w3 : IntKind.i64.wrap ((cnt : Int) + 1) = (cnt : Int) + 1 := i64_ok _ (by omega)
    have m0 : ¬ H.next = H2.next := by omega
    have m1 : ¬ H.next + 1 = H2.next := by omega
    have m2 : ¬ B = H2.next := by omega
    have m3 : ¬ H2.next = B := by omega
    simp -implicitDefEqProofs only [go_sem, Nat.reduceEqDiff, Nat.reduceAdd, Nat.reduceLeDiff, ↓reduceIte, reduceCtorEq, Int.reduceBEq, Int.reduceBNe, Int.reduceLT, Int.reduceLE, Int.reduceGT, Int.reduceGE, Int.reduceNeg, Int.reduceAdd, Int.reduceSub, Nat.reduceMul, Nat.reduceLT, Int.reduceToNat, t1, t2, t5, t6, g0, g1, gB, i0, l0, d0, s1, s2, s3, s4, q1, q2, q3, q4, m0, m1, m2, m3, w3]
    have hsz : szT (.mk 5 n hid s lv [k0, k1]) = 1 + (szT k0 + szT k1) := by simp [szT, szK]
    refine ⟨szT k0, by omega, k0, _, cnt + 1, H2.next, rfl, by simp, rfl, by omega, by omega, ((hE.new _).set (by omega) _).set (by omega) _, if_pos rfl, hap0, hP0, ?_⟩
    rw [hlen, spT_app, List.length_append]
    simp only [List.length_cons, List.length_nil]
    omega
end Go.Proofs.Ytooaiddfokbffaa.E

/- tele.Split, as the code does it. Conditions: none. -/
set_option linter.unusedVariables false
set_option linter.unusedSimpArgs false
namespace Go.Proofs.Ytooaiddfokbffaa.E
open Go Go.Proofs
attribute [local go_sem] s_seq s_ops s_draw s_block s_skip s_ret s_exit i_nil i_cons i_run i_runG s_condQ c_true c_false aop ev_t ev_c updO_at updO_no upd_at t_normal t_ret t_exit b_normal b_ret b_exit a_some ac_v ac_agg ac_ptr ac_slc ac_ro ac_rop ac_fn new_next set_next argTm_zero argTm_succ argTm_nil ab_bool ab_uv beq_self_eq_true Option.some_beq_some Bool.not_not beq_iff_eq decide_true decide_false Bool.not_true Bool.not_false afld aload astore apack alen_str alen_ro alen_slc alen_nil new_get set_get ite_true ite_false Option.map_some Option.bind_some ibin isShift Nat.add_zero Nat.zero_add List.length_cons List.length_nil List.drop_zero List.drop_succ_cons List.take_succ_cons List.take_zero if_true if_false setL List.set_cons_zero List.set_cons_succ List.all_cons List.all_nil one_int one_bool one_str one_nil one_ptr one_slc one_ro one_rop one_fn Bool.and_self Bool.and_true true_and and_true and_self Bool.false_eq_true post_ret post_normal resAll resOne packR Option.some.injEq exists_eq_left' List.map_cons List.map_nil List.nil_append List.append_nil List.cons_append d_nil d_cons k_nil k_cons g_op g_same g_new avBlock forall_eq' List.getElem?_cons_succ List.getElem?_cons_zero List.getElem?_nil okind gOk bne false_imp_iff forall_const imp_self implies_true true_imp_iff i_callG

/-- The outermost function types of a term, so many. -/
def piN : Nat → Tm → Option (List (Tm × Bool) × Tm)
  | 0, t => some ([], t)
  | n + 1, .mk f m h s lv ks => if f = 3 then (match ks with | [a, b] => (piN n b).map fun p => ((a, h) :: p.1, p.2) | _ => none) else none
theorem piN_no {n : Nat} {f m : Int} {h : Bool} {s : ByteArray} {lv : List Lv} {ks : List Tm} (hf : f ≠ 3) : piN (n + 1) (.mk f m h s lv ks) = none := by
  unfold piN
  rw [if_neg hf]
theorem piN_yes {n : Nat} {m : Int} {h : Bool} {s : ByteArray} {lv : List Lv} {a b : Tm} : piN (n + 1) (.mk 3 m h s lv [a, b]) = (piN n b).map fun p => ((a, h) :: p.1, p.2) := by rw [piN, if_pos rfl]

/-- A function type has two parts. -/
def Pp (t : Tm) : Prop := t.form = 3 → t.kids.length = 2
theorem form_pp (r : Lv → Bool) : ∀ t, allF (formF r) t = true → Tm.All Pp t := by
  refine Tm.rule fun f n hd s lv ks ih h => ?_
  simp only [allF, Bool.and_eq_true] at h
  obtain ⟨h1, h2⟩ := h
  simp only [Tm.All]
  refine ⟨fun hf => ?_, ?_⟩
  · have hk : kidsF f = (ks.length : Int) := by
      rcases Classical.em (kidsF f = (ks.length : Int)) with h' | h'
      · exact h'
      · unfold formF at h1
        rw [if_pos (by exact h')] at h1
        cases h1
    have hf : f = 3 := hf
    subst hf
    have : kidsF 3 = 2 := by decide
    show ks.length = 2
    omega
  · have key : ∀ ks', (∀ k ∈ ks', k ∈ ks) → allK (formF r) ks' = true → Tm.AllL Pp ks' := by
      intro ks'
      induction ks' with
      | nil => intro _ _; trivial
      | cons k q ih' =>
        intro hm h
        simp only [allK, Bool.and_eq_true] at h
        exact ⟨ih k (hm k (List.mem_cons_self ..)) h.1, ih' (fun k hk => hm k (List.mem_cons_of_mem _ hk)) h.2⟩
    exact key ks (fun _ h => h) h2

/-- The two parts of a function type, out of its cells. -/
theorem pi_parts {n : Int} {hid : Bool} {s : ByteArray} {lv : List Lv} {ks : List Tm} {c : List AV} (hap : Tm.All Pp (.mk 3 n hid s lv ks)) (hu : TmP (.mk 3 n hid s lv ks) c) :
    ∃ (k0 k1 : Tm) (lx kx : AV) (cs kc0 kc1 : List AV), ks = [k0, k1] ∧ c = [aint 3, aint n, abl hid, .v (.string s), lx, kx] ∧ lx.one = true ∧ lx.acells = [lx] ∧ kx.one = true ∧ kx.acells = [kx] ∧ aix 6 (0 : Int) kx = some (.rop cs 0) ∧ aix 6 (1 : Int) kx = some (.rop cs 6) ∧ 12 ≤ cs.length ∧
      cs.take 6 = kc0 ∧ (cs.drop 6).take 6 = kc1 ∧ TmP k0 kc0 ∧ TmP k1 kc1 ∧ Tm.All Pp k1 := by
  simp only [Tm.All, Pp, Tm.form, Tm.kids] at hap
  have hk2l : ks.length = 2 := hap.1 trivial
  obtain ⟨k0, k1, rfl⟩ : ∃ a b, ks = [a, b] := by
    match ks, hk2l with
    | [a, b], _ => exact ⟨a, b, rfl⟩
  simp only [Tm.AllL] at hap
  obtain ⟨lx, kx, ls, cs, rfl, hl1, hl2, hk1, hk2⟩ := hu.1.six
  simp only [Tm.kids] at hk1 hk2
  have hcso : ∀ y ∈ cs, Old 0 y := by
    have hko : Old 0 kx := hu.2 kx (by simp)
    rcases hk1 with ⟨h, _⟩ | ⟨lo, ex, rfl, _⟩
    · simp at h
    · cases hko with | ro _ _ _ _ h => exact h
  have hix0 := hk1.aix 6 (i := 0) (by simp)
  have hix1 := hk1.aix 6 (i := 1) (by simp)
  obtain ⟨kc0, hkc0, hle0, hld0⟩ := hk2.load (i := 0) (k := k0) rfl
  obtain ⟨kc1, hkc1, hle1, hld1⟩ := hk2.load (i := 1) (k := k1) rfl
  have hP0 : TmP k0 kc0 := ⟨hkc0, fun y hy => hcso y (by rw [← hld0] at hy; exact List.mem_of_mem_drop (List.mem_of_mem_take hy))⟩
  have hP1 : TmP k1 kc1 := ⟨hkc1, fun y hy => hcso y (by rw [← hld1] at hy; exact List.mem_of_mem_drop (List.mem_of_mem_take hy))⟩
  exact ⟨k0, k1, lx, kx, cs, kc0, kc1, rfl, rfl, hl1.one, hl1.cells, hk1.one, hk1.cells, hix0, hix1, by omega, by simpa using hld0, by simpa using hld1, hP0, hP1, hap.2.2.1⟩

theorem cleanK_app : ∀ (a b : List Tm), cleanK (a ++ b) = cleanK a ++ cleanK b
  | [], b => by simp [cleanK]
  | k :: r, b => by
    simp only [List.cons_append, cleanK]
    rw [cleanK_app r b]

/-- What Split answers. -/
def SplR (o : Option (List (Tm × Bool) × Tm)) (r : AV) : Prop := ∃ x y c ok, r = .tup [x, y, .agg c, abl ok] ∧ (match o with
  | none => x = nils ∧ y = nils ∧ c = z6 ∧ ok = false
  | some p => SlK (cleanK (p.1.map (·.1))) x ∧ HidR (p.1.map (·.2)) y ∧ TmP (cleanT p.2) c ∧ ok = true)

set_option maxRecDepth 100000 in
theorem split_ok (t : Tm) (ht : Tm.All TmB t) (hc : checkF canF t = 0) (cells : List AV) (hT : TmP t cells) (n : Nat) (hn : n ≤ 4611686018427387904) (H : AHeap) :
    SCall Try.prog 37 [.agg cells, aint n] H fun r H' => SplR (piN n t) r ∧ H' = H := by
  have hT' := hT
  obtain ⟨lx0, kx0, hc6, p1, p2, p3, p4, p5, p6, p7, p8⟩ := hT.six
  have e1 : ¬ H.next = H.next + 1 := by omega
  have e2 : ¬ H.next + 1 = H.next := by omega
  have hap := form_pp canF t (check_form hc).2
  obtain ⟨hz1, hz2⟩ := check_sz hc
  refine SCall.frz (R := fun r H' => Ext H H' ∧ ∃ y, FrzN H.next H' r y ∧ SplR (piN n t) y) ?_ (fun _ _ x H' ⟨h1, y, h2, h3⟩ _ => ⟨h1, y, h2, h3⟩)
  have none_ : ∀ {H' : AHeap}, piN n t = none → ∃ y, FrzN H.next H' (.tup [nils, nils, .agg z6, abl false]) y ∧ SplR (piN n t) y := fun {H'} h => by
    rw [h]
    refine ⟨_, .keep _ (.tup _ fun y hy => ?_), nils, nils, z6, false, rfl, rfl, rfl, rfl, rfl⟩
    simp at hy
    rcases hy with rfl | rfl | rfl
    · exact .v _
    · exact .agg _ fun z hz => (tmp_zero.2 z hz).mono (Nat.zero_le _)
    · exact .v _
  subst hc6
  refine SCall.intro mixed cf37 ?_
  have hn0 : ¬ (n : Int) < 0 := by omega
  simp -implicitDefEqProofs only [c37, go_sem, Nat.reduceEqDiff, Nat.reduceAdd, Nat.reduceLeDiff, ↓reduceIte, reduceCtorEq, Int.reduceBEq, Int.reduceBNe, Int.reduceLT, Int.reduceLE, Int.reduceGT, Int.reduceGE, Int.reduceNeg, Int.reduceAdd, Int.reduceSub, Nat.reduceMul, Nat.reduceLT, Int.reduceToNat, p1, p2, p3, p4, e1, e2, hn0]
  refine i_callA (fs := []) (cs := []) ?_ ?_ (check_ok canF t (tmb_fine ht) _ hT'.1 _) ?_
  · rfl
  · simp -implicitDefEqProofs only [go_sem, Nat.reduceEqDiff, Nat.reduceAdd, Nat.reduceLeDiff, ↓reduceIte, reduceCtorEq, Int.reduceBEq, Int.reduceBNe, Int.reduceLT, Int.reduceLE, Int.reduceGT, Int.reduceGE, Int.reduceNeg, Int.reduceAdd, Int.reduceSub, Nat.reduceMul, Nat.reduceLT, Int.reduceToNat]
  rw [hc]
  rintro x H3 ⟨rfl, rfl⟩
  simp -implicitDefEqProofs only [go_sem, Nat.reduceEqDiff, Nat.reduceAdd, Nat.reduceLeDiff, ↓reduceIte, reduceCtorEq, Int.reduceBEq, Int.reduceBNe, Int.reduceLT, Int.reduceLE, Int.reduceGT, Int.reduceGE, Int.reduceNeg, Int.reduceAdd, Int.reduceSub, Nat.reduceMul, Nat.reduceLT, Int.reduceToNat, p1, p2, p3, p4, e1, e2, hn0]
  refine swp_range n (fun i st => ∃ (u : Tm) (c : List AV) (d : List (Tm × Bool)) (x y : AV) (l : List AV), st.tm 2 = .ptr H.next 0 ∧ st.tm 6 = .ptr (H.next + 1) 0 ∧ st.tm 8 = x ∧ st.tm 9 = y ∧ st.tm 18 = aint n ∧ st.tm 19 = aint i ∧ H.next + 2 ≤ st.heap.next ∧ Ext H st.heap ∧ st.heap.get H.next = some (.cells c) ∧ st.heap.get (H.next + 1) = some (.cells z6) ∧
    Tm.All Pp u ∧ Tm.All TmB u ∧ TmP u c ∧ piN n t = (piN (n - i) u).map (fun p => (d ++ p.1, p.2)) ∧ d.length + szT u ≤ 20000 ∧ htT u ≤ 500 ∧ OutS st.heap (H.next + 2) 6 d.length l x ∧ KsX (cleanK (d.map (·.1))) l ∧ OutS st.heap (H.next + 2) 1 d.length (hidC (d.map (·.2))) y ∧ Two x y) ?_ ?_ ?_
  · refine ⟨t, _, [], nils, nils, [], rfl, rfl, rfl, rfl, rfl, rfl, Nat.le_refl _, ((Ext.refl H).new _).new _, ?_, ?_, hap, ht, hT', ?_, by simpa using hz1, hz2, .nil, rfl, .nil, two_nil _⟩
    · simp -implicitDefEqProofs only [go_sem, Nat.reduceEqDiff, Nat.reduceAdd, Nat.reduceLeDiff, ↓reduceIte, reduceCtorEq, Int.reduceBEq, Int.reduceBNe, Int.reduceLT, Int.reduceLE, Int.reduceGT, Int.reduceGE, Int.reduceNeg, Int.reduceAdd, Int.reduceSub, Nat.reduceMul, Nat.reduceLT, Int.reduceToNat, e1, e2]
    · simp -implicitDefEqProofs only [go_sem, Nat.reduceEqDiff, Nat.reduceAdd, Nat.reduceLeDiff, ↓reduceIte, reduceCtorEq, Int.reduceBEq, Int.reduceBNe, Int.reduceLT, Int.reduceLE, Int.reduceGT, Int.reduceGE, Int.reduceNeg, Int.reduceAdd, Int.reduceSub, Nat.reduceMul, Nat.reduceLT, Int.reduceToNat, e1, e2]
    · rw [Nat.sub_zero]
      cases piN n t with
      | none => rfl
      | some p => rfl
  · rintro i ⟨tm, H2⟩ hi ⟨u, c, d, x, y, l, t2, t6, t8, t9, t18, t19, hnx, hE, g0, g1, hapu, hbu, hu, hpi, hdl, hhu, hO, hX, hO2, hTw⟩
    simp only at t2 t6 t8 t9 t18 t19 hnx hE g0 g1 hO hO2
    have hltI : (i : Int) < (n : Int) := by omega
    have w3 : IntKind.i64.wrap ((i : Int) + 1) = (i : Int) + 1 := i64_ok _ (by omega)
    have hni : n - i = (n - (i + 1)) + 1 := by omega
    rw [hni] at hpi
    obtain ⟨f, m, hid, s, lv, ks⟩ := u
    by_cases hf : f = 3
    case neg =>
      rw [piN_no hf] at hpi
      obtain ⟨ux, vx, hk6, o1, o2, o3, o4, o5, o6, o7, o8⟩ := hu.six
      simp only [Tm.form, Tm.n, Tm.hid, Tm.name] at hk6
      subst hk6
      simp -implicitDefEqProofs only [go_sem, Nat.reduceEqDiff, Nat.reduceAdd, Nat.reduceLeDiff, ↓reduceIte, reduceCtorEq, Int.reduceBEq, Int.reduceBNe, Int.reduceLT, Int.reduceLE, Int.reduceGT, Int.reduceGE, Int.reduceNeg, Int.reduceAdd, Int.reduceSub, Nat.reduceMul, Nat.reduceLT, Int.reduceToNat, t2, t6, t8, t9, t18, t19, hltI, g0, g1, bne' hf, afill]
      exact ⟨hE.set (by omega) _, none_ hpi⟩
    subst hf
    obtain ⟨k0, k1, lx, kx, cs, kc0, kc1, rfl, rfl, q1, q2, q3, q4, i0, i1, l1, d0, d1, hP0, hP1, hap1⟩ := pi_parts hapu hu
    rw [piN_yes] at hpi
    simp only [Tm.All, Tm.AllL] at hbu
    have hsz : szT (.mk 3 m hid s lv [k0, k1]) = 1 + (szT k0 + szT k1) := by simp [szT, szK]
    have hht : htT k0 ≤ 500 ∧ htT k1 ≤ 500 := by
      simp only [htT, htK] at hhu; omega
    obtain ⟨wx, zx, hk7, s1, s2, s3, s4, s5, s6, s7, s8⟩ := hP1.six
    obtain ⟨_, _, _, y1, y2, y3, y4, y5, y6, y7, y8⟩ := hP0.six
    have l0 : 6 ≤ cs.length := by omega
    have l1' : 6 + 6 ≤ cs.length := by omega
    have m0 : ¬ H.next = H2.next := by omega
    have m1 : ¬ H.next + 1 = H2.next := by omega
    have m2 : ¬ H2.next = H.next := by omega
    subst hk7
    simp -implicitDefEqProofs only [go_sem, Nat.reduceEqDiff, Nat.reduceAdd, Nat.reduceLeDiff, ↓reduceIte, reduceCtorEq, Int.reduceBEq, Int.reduceBNe, Int.reduceLT, Int.reduceLE, Int.reduceGT, Int.reduceGE, Int.reduceNeg, Int.reduceAdd, Int.reduceSub, Nat.reduceMul, Nat.reduceLT, Int.reduceToNat, t2, t6, t8, t9, t18, t19, hltI, g0, g1, i0, i1, l0, l1, l1', d0, d1, q1, q2, q3, q4, m0, m1, m2, afill, y7, y8]
    refine i_callA (fs := []) (cs := []) (fid := 76) ?_ ?_ (copy_ok k0 hbu.2.1 (by omega) (by omega) _ hP0 _) ?_
    · rfl
    · simp -implicitDefEqProofs only [go_sem, Nat.reduceEqDiff, Nat.reduceAdd, Nat.reduceLeDiff, ↓reduceIte, reduceCtorEq, Int.reduceBEq, Int.reduceBNe, Int.reduceLT, Int.reduceLE, Int.reduceGT, Int.reduceGE, Int.reduceNeg, Int.reduceAdd, Int.reduceSub, Nat.reduceMul, Nat.reduceLT, Int.reduceToNat]
    rintro z H4 ⟨⟨xc, rfl, hxc⟩, hHH⟩
    have hHH := hHH.symm
    subst hHH
    obtain ⟨ax, bx, hk8, v1, v2, v3, v4, v5, v6', x7, x8⟩ := hxc.six
    subst hk8
    have n4 : ¬ H2.next = H2.next + 1 := by omega
    have n5 : ¬ H2.next + 1 = H2.next := by omega
    have n6 : ¬ H.next = H2.next + 1 := by omega
    have n7 : ¬ H.next + 1 = H2.next + 1 := by omega
    simp -implicitDefEqProofs only [go_sem, Nat.reduceEqDiff, Nat.reduceAdd, Nat.reduceLeDiff, ↓reduceIte, reduceCtorEq, Int.reduceBEq, Int.reduceBNe, Int.reduceLT, Int.reduceLE, Int.reduceGT, Int.reduceGE, Int.reduceNeg, Int.reduceAdd, Int.reduceSub, Nat.reduceMul, Nat.reduceLT, Int.reduceToNat, t2, t6, t8, t9, t18, t19, g0, g1, i0, i1, l0, l1, l1', d0, d1, q1, q2, q3, q4, m0, m1, m2, n4, n5, n6, n7, afill, v1, v2, v3, v4, hO.one, hO.cells, hO2.one, hO2.cells]
    refine ((hO.new _).new _).stepN (m := 1) (new := [aint (cleanT k0).form, aint (cleanT k0).n, abl (cleanT k0).hid, .v (.string (cleanT k0).name), ax, bx]) (asrc_slc (c := [aint (cleanT k0).form, aint (cleanT k0).n, abl (cleanT k0).hid, .v (.string (cleanT k0).name), ax, bx]) (by rw [new_get]; exact if_pos rfl) (by simp)) x8 (by omega) (by omega) ⟨by omega, by omega⟩ rfl fun x' G' r6 r7 r8 => ?_
    simp only [new_next] at r6 r7
    have hGx : ∀ b, b < H2.next → avBlock x ≠ some b → G'.get b = H2.get b := fun b hb hx => by
      rw [r8 b (by simp only [new_next]; omega) (hO.slcb hx), new_get, if_neg (by simp only [new_next]; omega), new_get, if_neg (by omega)]
    have u0 := (hGx _ (by omega) (fun h => by have := (hO.blk h).1; omega)).trans g0
    have u1 := (hGx _ (by omega) (fun h => by have := (hO.blk h).1; omega)).trans g1
    have u2 : G'.get H2.next = some (.cells [abl hid]) := by
      rw [r8 _ (by simp only [new_next]; omega) (hO.high (by omega)), new_get, if_neg (by simp only [new_next]; omega), new_get]; exact if_pos rfl
    have hO2' := hO2.keepB (H' := G') (by omega) fun b hb => hGx b (hO2.blk hb).2 fun h => hTw b h hb
    have hEG : Ext H G' := ⟨by have := hE.1; omega, fun b hb => (hGx b (by omega) (fun h => by have := (hO.blk h).1; omega)).trans (hE.2 b hb)⟩
    have u3 : ((H2.new (.cells [abl hid])).new (.cells [aint (cleanT k0).form, aint (cleanT k0).n, abl (cleanT k0).hid, .v (.string (cleanT k0).name), ax, bx])).get H2.next = some (.cells [abl hid]) := by rw [new_get, if_neg (by simp only [new_next]; omega), new_get]; exact if_pos rfl
    simp -implicitDefEqProofs only [go_sem, Nat.reduceEqDiff, Nat.reduceAdd, Nat.reduceLeDiff, ↓reduceIte, reduceCtorEq, Int.reduceBEq, Int.reduceBNe, Int.reduceLT, Int.reduceLE, Int.reduceGT, Int.reduceGE, Int.reduceNeg, Int.reduceAdd, Int.reduceSub, Nat.reduceMul, Nat.reduceLT, Int.reduceToNat, t2, t6, t8, t9, t18, t19, u0, u1, u2, u3, m0, m1, m2, n4, n5, n6, n7, hO2.one, hO2.cells, r6.one, r6.cells]
    refine hO2'.stepN (m := 1) (new := [abl hid]) (asrc_slc (c := [abl hid]) u2 (by simp)) rfl (by omega) (by omega) ⟨by omega, by omega⟩ rfl fun y' G2 v6 v7 v8 => ?_
    have hG2 : ∀ b, b < G'.next → avBlock y ≠ some b → G2.get b = G'.get b := fun b hb hy => v8 b hb (hO2'.slcb hy)
    have w0 := (hG2 _ (by omega) (fun h => by have := (hO2.blk h).1; omega)).trans u0
    have w1 := (hG2 _ (by omega) (fun h => by have := (hO2.blk h).1; omega)).trans u1
    have r6' := r6.keepB (H' := G2) v7 fun b hb => hG2 b (r6.blk hb).2 fun h => by have := (hO2.blk h).2; have := (r6.blk hb).1; omega
    have hEG2 : Ext H G2 := ⟨by have := hEG.1; omega, fun b hb => (hG2 b (by omega) (fun h => by have := (hO2.blk h).1; omega)).trans (hEG.2 b hb)⟩
    have hTw2 : Two x' y' := fun b h1 h2 => by have := (r6.blk h1).2; have := (v6.blk h2).1; omega
    have m6 : ¬ H.next + 1 = H.next := by omega
    simp -implicitDefEqProofs only [go_sem, Nat.reduceEqDiff, Nat.reduceAdd, Nat.reduceLeDiff, ↓reduceIte, reduceCtorEq, Int.reduceBEq, Int.reduceBNe, Int.reduceLT, Int.reduceLE, Int.reduceGT, Int.reduceGE, Int.reduceNeg, Int.reduceAdd, Int.reduceSub, Nat.reduceMul, Nat.reduceLT, Int.reduceToNat, t2, t6, t8, t9, t18, t19, w0, w1, w3, i0, i1, l0, l1, l1', d0, d1, s1, s2, s3, s4, q1, q2, q3, q4, m6]
    refine ⟨k1, _, d ++ [(k0, hid)], x', y', l ++ [aint (cleanT k0).form, aint (cleanT k0).n, abl (cleanT k0).hid, .v (.string (cleanT k0).name), ax, bx], rfl, rfl, rfl, by omega, hEG2.set (by omega) _, rfl, hap1, hbu.2.2.1, hP1, ?_, by simp only [List.length_append, List.length_cons, List.length_nil]; omega, hht.2, ?_, ?_, ?_, hTw2⟩
    · rw [hpi, Option.map_map]
      congr 1
      funext p
      simp
    · rw [List.length_append]
      exact (r6'.set (r6'.notlow (by omega)) _).low (by omega)
    · rw [List.map_append, cleanK_app]
      exact hX.snoc hxc
    · have hh : hidC ((d ++ [(k0, hid)]).map (·.2)) = hidC (d.map (·.2)) ++ [abl hid] := by simp [hidC]
      rw [List.length_append, hh]
      exact (v6.set (v6.notlow (by omega)) _).low (by omega)
  · rintro ⟨tm, H2⟩ ⟨u, c, d, x, y, l, t2, t6, t8, t9, t18, t19, hnx, hE, g0, g1, hapu, hbu, hu, hpi, hdl, hhu, hO, hX, hO2, hTw⟩
    simp only at t2 t6 t8 t9 t18 t19 hnx hE g0 g1 hO hO2
    obtain ⟨ay, by', hk6, y1, y2, y3, y4, y5, y6, y7, y8⟩ := hu.six
    subst hk6
    simp -implicitDefEqProofs only [go_sem, Nat.reduceEqDiff, Nat.reduceAdd, Nat.reduceLeDiff, ↓reduceIte, reduceCtorEq, Int.reduceBEq, Int.reduceBNe, Int.reduceLT, Int.reduceLE, Int.reduceGT, Int.reduceGE, Int.reduceNeg, Int.reduceAdd, Int.reduceSub, Nat.reduceMul, Nat.reduceLT, Int.reduceToNat, t2, t6, t8, t9, t18, t19, Int.lt_irrefl, g0, g1, y1, y2, y3, y4]
    refine i_callA (fs := []) (cs := []) (fid := 76) ?_ ?_ (copy_ok u hbu (by omega) (by omega) _ hu _) ?_
    · rfl
    · simp -implicitDefEqProofs only [go_sem, Nat.reduceEqDiff, Nat.reduceAdd, Nat.reduceLeDiff, ↓reduceIte, reduceCtorEq, Int.reduceBEq, Int.reduceBNe, Int.reduceLT, Int.reduceLE, Int.reduceGT, Int.reduceGE, Int.reduceNeg, Int.reduceAdd, Int.reduceSub, Nat.reduceMul, Nat.reduceLT, Int.reduceToNat]
    rintro z H4 ⟨⟨xc, rfl, hxc⟩, hHH⟩
    have hHH := hHH.symm
    subst hHH
    obtain ⟨ax, bx, hk8, v1, v2, v3, v4, v5, v6', x7, x8⟩ := hxc.six
    subst hk8
    simp -implicitDefEqProofs only [go_sem, Nat.reduceEqDiff, Nat.reduceAdd, Nat.reduceLeDiff, ↓reduceIte, reduceCtorEq, Int.reduceBEq, Int.reduceBNe, Int.reduceLT, Int.reduceLE, Int.reduceGT, Int.reduceGE, Int.reduceNeg, Int.reduceAdd, Int.reduceSub, Nat.reduceMul, Nat.reduceLT, Int.reduceToNat, t2, t6, t8, t9, t18, t19, g0, g1, e1, e2, v1, v2, v3, v4, hO.one, hO.cells, hO2.one, hO2.cells]
    refine ⟨hE.set (by omega) _, ?_⟩
    have hOf := hO.set (b' := H.next + 1) (hO.notlow (by omega)) (.cells [aint (cleanT u).form, aint (cleanT u).n, abl (cleanT u).hid, .v (.string (cleanT u).name), ax, bx])
    have hOg := hO2.set (b' := H.next + 1) (hO2.notlow (by omega)) (.cells [aint (cleanT u).form, aint (cleanT u).n, abl (cleanT u).hid, .v (.string (cleanT u).name), ax, bx])
    obtain ⟨zx, f1, f2⟩ := hOf.frzOld (N := H.next) (by omega) (fun y hy => (hX.old y hy).mono (Nat.zero_le _))
    obtain ⟨zy, f3, f4⟩ := hOg.frzOld (N := H.next) (by omega) (hidC_old _ _)
    have hl1 : d.length = (cleanK (d.map (·.1))).length := by rw [cleanK_len]; simp
    have hl2 : d.length = (d.map (·.2)).length := by simp
    rw [hl1] at f2
    rw [hl2] at f4
    have hpe : piN n t = some (d, u) := by
      rw [hpi, Nat.sub_self]
      simp [piN]
    rw [hpe]
    refine ⟨.tup [zx, zy, .agg [aint (cleanT u).form, aint (cleanT u).n, abl (cleanT u).hid, .v (.string (cleanT u).name), ax, bx], abl true], .tup _ _ rfl fun i x y hx hy => ?_, zx, zy, _, true, rfl, SlK.of hX f2, hid_of f4, hxc, rfl⟩
    match i, hx, hy with
    | 0, hx, hy => simp at hx hy; subst hx hy; exact f1
    | 1, hx, hy => simp at hx hy; subst hx hy; exact f3
    | 2, hx, hy => simp at hx hy; subst hx hy; exact .keep _ (.agg _ fun z hz => (hxc.2 z hz).mono (Nat.zero_le _))
    | 3, hx, hy => simp at hx hy; subst hx hy; exact .keep _ (.v _)
    | i + 4, hx, hy => simp at hx
end Go.Proofs.Ytooaiddfokbffaa.E

/- The example of the law TeleSpine, but for tele.bind. Conditions: none. -/
set_option linter.unusedVariables false
set_option linter.unusedSimpArgs false
namespace Go.Proofs.Ytooaiddfokbffaa.E
open Go Go.Proofs
attribute [local go_sem] s_seq s_ops s_draw s_block s_skip s_ret s_exit i_nil i_cons i_run i_runG s_condQ c_true c_false aop ev_t ev_c updO_at updO_no upd_at t_normal t_ret t_exit b_normal b_ret b_exit a_some ac_v ac_agg ac_ptr ac_slc ac_ro ac_rop ac_fn new_next set_next argTm_zero argTm_succ argTm_nil ab_bool ab_uv beq_self_eq_true Option.some_beq_some Bool.not_not beq_iff_eq decide_true decide_false Bool.not_true Bool.not_false afld aload astore apack alen_str alen_ro alen_slc alen_nil new_get set_get ite_true ite_false Option.map_some Option.bind_some ibin isShift Nat.add_zero Nat.zero_add List.length_cons List.length_nil List.drop_zero List.drop_succ_cons List.take_succ_cons List.take_zero if_true if_false setL List.set_cons_zero List.set_cons_succ List.all_cons List.all_nil one_int one_bool one_str one_nil one_ptr one_slc one_ro one_rop one_fn Bool.and_self Bool.and_true true_and and_true and_self Bool.false_eq_true post_ret post_normal resAll resOne packR Option.some.injEq exists_eq_left' List.map_cons List.map_nil List.nil_append List.append_nil List.cons_append d_nil d_cons k_nil k_cons g_op g_same g_new avBlock forall_eq' List.getElem?_cons_succ List.getElem?_cons_zero List.getElem?_nil okind gOk bne false_imp_iff forall_const imp_self implies_true true_imp_iff i_callG

/-- The sort of level 0, as the code makes it. -/
def set0 : Tm := .mk 2 0 false (ByteArray.mk #[]) [⟨0, []⟩] []
theorem set0P_ok (H : AHeap) : SCall Try.prog 23 [aint 0] H fun x H' => (∃ c, x = .agg c ∧ TmP set0 c) ∧ H' = H := by
  refine SCall.frz (G := fun x => ∃ c, x = .agg c ∧ TmP set0 c) (set_ok H) ?_
  rintro _ _ x H' ⟨⟨⟨b, h1, rfl, h2⟩, hE⟩, _⟩ _
  have hf : FrzN H.next H' (.slc b 0 2 1 1 true) (.ro 1 1 true [aint 0, nils]) := by
    refine .slc _ _ _ _ _ _ _ _ h2 h1 (by simp) fun i x y hx hy => ?_
    match i, hx, hy with
    | 0, hx, hy => simp at hx hy; subst hx hy; exact .keep _ (.v _)
    | 1, hx, hy => simp at hx hy; subst hx hy; exact .keep _ (.v _)
    | i + 2, hx, hy => simp at hx
  have hs : SlL [⟨0, []⟩] (.ro 1 1 true [aint 0, nils]) := SlL.of (cs := [aint 0, nils]) ⟨nils, [], rfl, slv_nil, rfl⟩ (.inr ⟨1, true, rfl, Nat.le_refl _⟩)
  exact ⟨hE, _, FrzN.six (.keep _ (.v _)) (.keep _ (.v _)) (.keep _ (.v _)) (.keep _ (.v _)) hf (.keep _ (.v _)), _, rfl, tmp_bare hs⟩

theorem avar_ok (n : Int) (H : AHeap) : SCall Try.prog 73 [aint n] H fun x H' => x = .agg [aint 1, aint n, abl false, nostr, nils, nils] ∧ H' = H := by
  refine SCall.valO (.agg _ fun y hy => by simp at hy; rcases hy with rfl | rfl | rfl | rfl | rfl <;> exact .v _) (SCall.intro mixed cf73 ?_)
  simp -implicitDefEqProofs only [c73, go_sem, Nat.reduceEqDiff, Nat.reduceAdd, Nat.reduceLeDiff, ↓reduceIte, reduceCtorEq, Int.reduceBEq, Int.reduceBNe, Int.reduceLT, Int.reduceLE, Int.reduceGT, Int.reduceGE, Int.reduceNeg, Int.reduceAdd, Int.reduceSub, Nat.reduceMul, Nat.reduceLT, Int.reduceToNat, afill]
  exact ((Ext.refl H).new _).set (by omega) _

/-- The term of the example. -/
def piEx : Tm := .mk 3 0 false zeroS [] [set0, .mk 3 0 false zeroS [] [varTm 0, varTm 1]]
theorem piEx_check : checkF canF piEx = 0 := by decide
theorem piEx_split : piN 2 piEx = some ([(set0, false), (varTm 0, false)], varTm 1) := rfl
theorem piEx_b : Tm.All TmB piEx := by
  simp [piEx, set0, varTm, Tm.All, Tm.AllL, TmB, Tm.form, Tm.n, Tm.hid, Tm.name, Tm.lv, Tm.kids, Rng, zeroS, LvB]
  decide

theorem tmb1 : Tm.All TmB (varTm 1) := by
  simp [varTm, Tm.All, Tm.AllL, TmB, Tm.form, Tm.n, Tm.hid, Tm.name, Tm.lv, Tm.kids, Rng, zeroS, LvB]
  decide
theorem tmb0 : Tm.All TmB set0 := by
  simp [set0, Tm.All, Tm.AllL, TmB, Tm.form, Tm.n, Tm.hid, Tm.name, Tm.lv, Tm.kids, Rng, zeroS, LvB]
  decide

/-- What is asked of tele.bind. -/
def BindEx : Prop := ∀ (b : Nat) (k0 k1 : List AV) (H : AHeap), TmP set0 k0 → TmP (varTm 0) k1 → H.get b = some (.cells (k0 ++ k1)) → b < H.next →
  SCall Try.prog 89 [aint 3, .slc b 0 6 2 2 true, nils, .agg [aint 1, aint 1, abl false, nostr, nils, nils]] H fun x H' => (∃ c, x = .tup [.agg c, aint 0] ∧ TmP piEx c) ∧ H' = H

theorem pis_ok (hB : BindEx) (b : Nat) (k0 k1 : List AV) (H : AHeap) (h0 : TmP set0 k0) (h1 : TmP (varTm 0) k1) (hg : H.get b = some (.cells (k0 ++ k1))) (hb : b < H.next) :
    SCall Try.prog 35 [.slc b 0 6 2 2 true, nils, .agg [aint 1, aint 1, abl false, nostr, nils, nils]] H fun x H' => (∃ c, x = .tup [.agg c, aint 0] ∧ TmP piEx c) ∧ H' = H := by
  refine SCall.frz (G := fun x => ∃ c, x = .tup [.agg c, aint 0] ∧ TmP piEx c) (R := fun x H' => Ext H H' ∧ ∃ c, x = .tup [.agg c, aint 0] ∧ TmP piEx c) (SCall.intro mixed cf35 ?_) ?_
  · have e1 : ¬ H.next = H.next + 1 := by omega
    have e2 : ¬ H.next + 1 = H.next := by omega
    have e3 : ¬ b = H.next := by omega
    have e4 : ¬ b = H.next + 1 := by omega
    simp -implicitDefEqProofs only [c35, go_sem, Nat.reduceEqDiff, Nat.reduceAdd, Nat.reduceLeDiff, ↓reduceIte, reduceCtorEq, Int.reduceBEq, Int.reduceBNe, Int.reduceLT, Int.reduceLE, Int.reduceGT, Int.reduceGE, Int.reduceNeg, Int.reduceAdd, Int.reduceSub, Nat.reduceMul, Nat.reduceLT, Int.reduceToNat, afill, e1, e2]
    refine i_callA (fs := []) (cs := []) (fid := 89) ?_ ?_ (hB b k0 k1 _ h0 h1 (by rw [new_get, if_neg (by simp only [new_next]; omega), new_get, if_neg (by omega)]; exact hg) (by simp only [new_next]; omega)) ?_
    · rfl
    · simp -implicitDefEqProofs only [go_sem, Nat.reduceEqDiff, Nat.reduceAdd, Nat.reduceLeDiff, ↓reduceIte, reduceCtorEq, Int.reduceBEq, Int.reduceBNe, Int.reduceLT, Int.reduceLE, Int.reduceGT, Int.reduceGE, Int.reduceNeg, Int.reduceAdd, Int.reduceSub, Nat.reduceMul, Nat.reduceLT, Int.reduceToNat]
    rintro z H4 ⟨⟨xc, rfl, hxc⟩, hHH⟩
    have hHH := hHH.symm
    subst hHH
    obtain ⟨ax, bx, hk8, v1, v2, v3, v4, v5, v6', x7, x8⟩ := hxc.six
    subst hk8
    simp -implicitDefEqProofs only [go_sem, Nat.reduceEqDiff, Nat.reduceAdd, Nat.reduceLeDiff, ↓reduceIte, reduceCtorEq, Int.reduceBEq, Int.reduceBNe, Int.reduceLT, Int.reduceLE, Int.reduceGT, Int.reduceGE, Int.reduceNeg, Int.reduceAdd, Int.reduceSub, Nat.reduceMul, Nat.reduceLT, Int.reduceToNat, e1, e2, v1, v2, v3, v4]
    exact ⟨(((Ext.refl H).new _).new _).set (by omega) _, _, rfl, hxc⟩
  · rintro _ _ x H' ⟨hE, c, rfl, hc⟩ _
    refine ⟨hE, _, .keep _ (.tup _ fun y hy => ?_), c, rfl, hc⟩
    simp at hy
    rcases hy with rfl | rfl
    · exact .agg _ fun z hz => (hc.2 z hz).mono (Nat.zero_le _)
    · exact .v _

theorem id36_ok (n : Int) (H : AHeap) : SCall Try.prog 36 [aint n] H fun x H' => x = aint n ∧ H' = H := by
  refine SCall.val (SCall.intro mixed cf36 ?_)
  simp -implicitDefEqProofs only [c36, go_sem, Nat.reduceEqDiff, Nat.reduceAdd, Nat.reduceLeDiff, ↓reduceIte, reduceCtorEq, Int.reduceBEq, Int.reduceBNe, Int.reduceLT, Int.reduceLE, Int.reduceGT, Int.reduceGE, Int.reduceNeg, Int.reduceAdd, Int.reduceSub, Nat.reduceMul, Nat.reduceLT, Int.reduceToNat]
  exact Ext.refl H

set_option maxRecDepth 100000 in
theorem aliveSp_of (hB : BindEx) (H : AHeap) : SCall Try.prog 28 [] H fun x H' => x = abl true ∧ H' = H := by
  refine SCall.val (SCall.intro mixed cf28 ?_)
  have e1 : ¬ H.next = H.next + 1 := by omega
  have e2 : ¬ H.next + 1 = H.next := by omega
  simp -implicitDefEqProofs only [c28, go_sem, Nat.reduceEqDiff, Nat.reduceAdd, Nat.reduceLeDiff, ↓reduceIte, reduceCtorEq, Int.reduceBEq, Int.reduceBNe, Int.reduceLT, Int.reduceLE, Int.reduceGT, Int.reduceGE, Int.reduceNeg, Int.reduceAdd, Int.reduceSub, Nat.reduceMul, Nat.reduceLT, Int.reduceToNat]
  refine i_callA (fs := []) (cs := []) (fid := 23) ?_ ?_ (set0P_ok _) ?_
  · rfl
  · simp -implicitDefEqProofs only [go_sem, Nat.reduceEqDiff, Nat.reduceAdd, Nat.reduceLeDiff, ↓reduceIte, reduceCtorEq, Int.reduceBEq, Int.reduceBNe, Int.reduceLT, Int.reduceLE, Int.reduceGT, Int.reduceGE, Int.reduceNeg, Int.reduceAdd, Int.reduceSub, Nat.reduceMul, Nat.reduceLT, Int.reduceToNat]
  rintro z H4 ⟨⟨xc, rfl, hxc⟩, hHH⟩
  have hHH := hHH.symm
  subst hHH
  obtain ⟨ax, bx, hk8, v1, v2, v3, v4, v5, v6', x7, x8⟩ := hxc.six
  subst hk8
  simp -implicitDefEqProofs only [go_sem, Nat.reduceEqDiff, Nat.reduceAdd, Nat.reduceLeDiff, ↓reduceIte, reduceCtorEq, Int.reduceBEq, Int.reduceBNe, Int.reduceLT, Int.reduceLE, Int.reduceGT, Int.reduceGE, Int.reduceNeg, Int.reduceAdd, Int.reduceSub, Nat.reduceMul, Nat.reduceLT, Int.reduceToNat]
  refine i_callA (fs := []) (cs := []) (fid := 73) ?_ ?_ (avar_ok 0 _) ?_
  · rfl
  · simp -implicitDefEqProofs only [go_sem, Nat.reduceEqDiff, Nat.reduceAdd, Nat.reduceLeDiff, ↓reduceIte, reduceCtorEq, Int.reduceBEq, Int.reduceBNe, Int.reduceLT, Int.reduceLE, Int.reduceGT, Int.reduceGE, Int.reduceNeg, Int.reduceAdd, Int.reduceSub, Nat.reduceMul, Nat.reduceLT, Int.reduceToNat]
  rintro z H4 ⟨rfl, hHH⟩
  have hHH := hHH.symm
  subst hHH
  simp -implicitDefEqProofs only [go_sem, Nat.reduceEqDiff, Nat.reduceAdd, Nat.reduceLeDiff, ↓reduceIte, reduceCtorEq, Int.reduceBEq, Int.reduceBNe, Int.reduceLT, Int.reduceLE, Int.reduceGT, Int.reduceGE, Int.reduceNeg, Int.reduceAdd, Int.reduceSub, Nat.reduceMul, Nat.reduceLT, Int.reduceToNat, v1, v2, v3, v4]
  refine i_callA (fs := []) (cs := []) (fid := 73) ?_ ?_ (avar_ok 1 _) ?_
  · rfl
  · simp -implicitDefEqProofs only [go_sem, Nat.reduceEqDiff, Nat.reduceAdd, Nat.reduceLeDiff, ↓reduceIte, reduceCtorEq, Int.reduceBEq, Int.reduceBNe, Int.reduceLT, Int.reduceLE, Int.reduceGT, Int.reduceGE, Int.reduceNeg, Int.reduceAdd, Int.reduceSub, Nat.reduceMul, Nat.reduceLT, Int.reduceToNat]
  rintro z H4 ⟨rfl, hHH⟩
  have hHH := hHH.symm
  subst hHH
  simp -implicitDefEqProofs only [go_sem, Nat.reduceEqDiff, Nat.reduceAdd, Nat.reduceLeDiff, ↓reduceIte, reduceCtorEq, Int.reduceBEq, Int.reduceBNe, Int.reduceLT, Int.reduceLE, Int.reduceGT, Int.reduceGE, Int.reduceNeg, Int.reduceAdd, Int.reduceSub, Nat.reduceMul, Nat.reduceLT, Int.reduceToNat, v1, v2, v3, v4]
  refine i_callA (fs := []) (cs := []) (fid := 35) ?_ ?_ (pis_ok hB H.next [aint set0.form, aint set0.n, abl set0.hid, .v (.string set0.name), ax, bx] [aint 1, aint 0, abl false, nostr, nils, nils] _ hxc (tmp_var 0) (by rw [new_get, if_pos rfl]; rfl) (by simp only [new_next]; omega)) ?_
  · rfl
  · simp -implicitDefEqProofs only [go_sem, Nat.reduceEqDiff, Nat.reduceAdd, Nat.reduceLeDiff, ↓reduceIte, reduceCtorEq, Int.reduceBEq, Int.reduceBNe, Int.reduceLT, Int.reduceLE, Int.reduceGT, Int.reduceGE, Int.reduceNeg, Int.reduceAdd, Int.reduceSub, Nat.reduceMul, Nat.reduceLT, Int.reduceToNat]
  rintro z H4 ⟨⟨pc, rfl, hpc⟩, hHH⟩
  have hHH := hHH.symm
  subst hHH
  obtain ⟨ay, by', hk9, w1, w2, w3, w4, w5, w6, w7, w8⟩ := hpc.six
  subst hk9
  simp -implicitDefEqProofs only [go_sem, Nat.reduceEqDiff, Nat.reduceAdd, Nat.reduceLeDiff, ↓reduceIte, reduceCtorEq, Int.reduceBEq, Int.reduceBNe, Int.reduceLT, Int.reduceLE, Int.reduceGT, Int.reduceGE, Int.reduceNeg, Int.reduceAdd, Int.reduceSub, Nat.reduceMul, Nat.reduceLT, Int.reduceToNat, w1, w2, w3, w4, afill]
  refine i_callA (fs := []) (cs := []) (fid := 37) ?_ ?_ (split_ok piEx piEx_b piEx_check _ hpc 2 (by omega) _) ?_
  · rfl
  · simp -implicitDefEqProofs only [go_sem, Nat.reduceEqDiff, Nat.reduceAdd, Nat.reduceLeDiff, ↓reduceIte, reduceCtorEq, Int.reduceBEq, Int.reduceBNe, Int.reduceLT, Int.reduceLE, Int.reduceGT, Int.reduceGE, Int.reduceNeg, Int.reduceAdd, Int.reduceSub, Nat.reduceMul, Nat.reduceLT, Int.reduceToNat, w1, w2, w3, w4]
    rfl
  rw [piEx_split]
  rintro z H4 ⟨⟨x, y, c, ok, rfl, hx, hy, hc, rfl⟩, hHH⟩
  have hHH := hHH.symm
  subst hHH
  obtain ⟨az, bz, hk5, u1, u2, u3, u4, u5, u6, u7, u8⟩ := hc.six
  subst hk5
  have hxo := hx.2
  have c2 : ((2 : Nat) : Int) = 2 := rfl
  obtain ⟨⟨cs, hk1, hk2⟩, _⟩ := hx
  have q1 := hk1.one
  have q2 := hk1.cells
  have q3 : ∀ G : AHeap, alen G .slice x = some 2 := fun G => hk1.alen G
  have i0 : aix 6 (0 : Int) x = some (.rop cs 0) := hk1.aix 6 (i := 0) (by simp [cleanK])
  obtain ⟨kc0, hkc0, hle0, hld0⟩ := hk2.load (i := 0) (k := set0) rfl
  have l0 : 6 ≤ cs.length := by omega
  have d0 : cs.take 6 = kc0 := by simpa using hld0
  obtain ⟨aw, bw, ls, ds, hk5, g1, g2, g3, g4⟩ := hkc0.six
  have r1 := g1.one
  have r2 := g1.cells
  have r3 := g3.one
  have r4 := g3.cells
  subst hk5
  simp -implicitDefEqProofs only [go_sem, Nat.reduceEqDiff, Nat.reduceAdd, Nat.reduceLeDiff, ↓reduceIte, reduceCtorEq, Int.reduceBEq, Int.reduceBNe, Int.reduceLT, Int.reduceLE, Int.reduceGT, Int.reduceGE, Int.reduceNeg, Int.reduceAdd, Int.reduceSub, Nat.reduceMul, Nat.reduceLT, Int.reduceToNat, u1, u2, u3, u4, afill, q1, q2, q3]
  refine i_callA (fs := []) (cs := []) (fid := 36) ?_ ?_ (id36_ok 0 _) ?_
  · rfl
  · simp -implicitDefEqProofs only [go_sem, Nat.reduceEqDiff, Nat.reduceAdd, Nat.reduceLeDiff, ↓reduceIte, reduceCtorEq, Int.reduceBEq, Int.reduceBNe, Int.reduceLT, Int.reduceLE, Int.reduceGT, Int.reduceGE, Int.reduceNeg, Int.reduceAdd, Int.reduceSub, Nat.reduceMul, Nat.reduceLT, Int.reduceToNat]
  rintro z H4 ⟨rfl, hHH⟩
  have hHH := hHH.symm
  subst hHH
  simp -implicitDefEqProofs only [go_sem, Nat.reduceEqDiff, Nat.reduceAdd, Nat.reduceLeDiff, ↓reduceIte, reduceCtorEq, Int.reduceBEq, Int.reduceBNe, Int.reduceLT, Int.reduceLE, Int.reduceGT, Int.reduceGE, Int.reduceNeg, Int.reduceAdd, Int.reduceSub, Nat.reduceMul, Nat.reduceLT, Int.reduceToNat, u1, u2, u3, u4, afill, q1, q2, q3, e1, e2, c2, g_opG]
  refine i_callA (fs := []) (cs := []) (fid := 73) ?_ ?_ (avar_ok 1 _) ?_
  · rfl
  · simp -implicitDefEqProofs only [go_sem, Nat.reduceEqDiff, Nat.reduceAdd, Nat.reduceLeDiff, ↓reduceIte, reduceCtorEq, Int.reduceBEq, Int.reduceBNe, Int.reduceLT, Int.reduceLE, Int.reduceGT, Int.reduceGE, Int.reduceNeg, Int.reduceAdd, Int.reduceSub, Nat.reduceMul, Nat.reduceLT, Int.reduceToNat]
  rintro z H4 ⟨rfl, hHH⟩
  have hHH := hHH.symm
  subst hHH
  simp -implicitDefEqProofs only [go_sem, Nat.reduceEqDiff, Nat.reduceAdd, Nat.reduceLeDiff, ↓reduceIte, reduceCtorEq, Int.reduceBEq, Int.reduceBNe, Int.reduceLT, Int.reduceLE, Int.reduceGT, Int.reduceGE, Int.reduceNeg, Int.reduceAdd, Int.reduceSub, Nat.reduceMul, Nat.reduceLT, Int.reduceToNat, u1, u2, u3, u4, afill, q1, q2, q3, e1, e2, c2, g_opG]
  refine i_callA (fs := []) (cs := []) (fid := 22) ?_ ?_ (exact_ok (varTm 1) tmb1 _ _ hc.1 (tmp_var 1).1 _) ?_
  · rfl
  · simp -implicitDefEqProofs only [go_sem, Nat.reduceEqDiff, Nat.reduceAdd, Nat.reduceLeDiff, ↓reduceIte, reduceCtorEq, Int.reduceBEq, Int.reduceBNe, Int.reduceLT, Int.reduceLE, Int.reduceGT, Int.reduceGE, Int.reduceNeg, Int.reduceAdd, Int.reduceSub, Nat.reduceMul, Nat.reduceLT, Int.reduceToNat]
  rintro z H4 ⟨rfl, hHH⟩
  have hHH := hHH.symm
  subst hHH
  simp -implicitDefEqProofs only [go_sem, Nat.reduceEqDiff, Nat.reduceAdd, Nat.reduceLeDiff, ↓reduceIte, reduceCtorEq, Int.reduceBEq, Int.reduceBNe, Int.reduceLT, Int.reduceLE, Int.reduceGT, Int.reduceGE, Int.reduceNeg, Int.reduceAdd, Int.reduceSub, Nat.reduceMul, Nat.reduceLT, Int.reduceToNat, u1, u2, u3, u4, afill, q1, q2, q3, e1, e2, c2, g_opG, i0, l0, d0, r1, r2, r3, r4]
  refine i_callA (fs := []) (cs := []) (fid := 23) ?_ ?_ (set0P_ok _) ?_
  · rfl
  · simp -implicitDefEqProofs only [go_sem, Nat.reduceEqDiff, Nat.reduceAdd, Nat.reduceLeDiff, ↓reduceIte, reduceCtorEq, Int.reduceBEq, Int.reduceBNe, Int.reduceLT, Int.reduceLE, Int.reduceGT, Int.reduceGE, Int.reduceNeg, Int.reduceAdd, Int.reduceSub, Nat.reduceMul, Nat.reduceLT, Int.reduceToNat]
  rintro z H4 ⟨⟨xc, rfl, hxc2⟩, hHH⟩
  have hHH := hHH.symm
  subst hHH
  simp -implicitDefEqProofs only [go_sem, Nat.reduceEqDiff, Nat.reduceAdd, Nat.reduceLeDiff, ↓reduceIte, reduceCtorEq, Int.reduceBEq, Int.reduceBNe, Int.reduceLT, Int.reduceLE, Int.reduceGT, Int.reduceGE, Int.reduceNeg, Int.reduceAdd, Int.reduceSub, Nat.reduceMul, Nat.reduceLT, Int.reduceToNat, u1, u2, u3, u4, afill, q1, q2, q3, e1, e2, c2, g_opG, i0, l0, d0, r1, r2, r3, r4]
  refine i_callA (fs := []) (cs := []) (fid := 22) ?_ ?_ (exact_ok set0 tmb0 _ _ hkc0 hxc2.1 _) ?_
  · rfl
  · simp -implicitDefEqProofs only [go_sem, Nat.reduceEqDiff, Nat.reduceAdd, Nat.reduceLeDiff, ↓reduceIte, reduceCtorEq, Int.reduceBEq, Int.reduceBNe, Int.reduceLT, Int.reduceLE, Int.reduceGT, Int.reduceGE, Int.reduceNeg, Int.reduceAdd, Int.reduceSub, Nat.reduceMul, Nat.reduceLT, Int.reduceToNat]
  rintro z H4 ⟨rfl, hHH⟩
  have hHH := hHH.symm
  subst hHH
  simp -implicitDefEqProofs only [go_sem, Nat.reduceEqDiff, Nat.reduceAdd, Nat.reduceLeDiff, ↓reduceIte, reduceCtorEq, Int.reduceBEq, Int.reduceBNe, Int.reduceLT, Int.reduceLE, Int.reduceGT, Int.reduceGE, Int.reduceNeg, Int.reduceAdd, Int.reduceSub, Nat.reduceMul, Nat.reduceLT, Int.reduceToNat]
  exact ((((Ext.refl H).new _).new _).set (by omega) _ |>.new _).set (by omega) _
end Go.Proofs.Ytooaiddfokbffaa.E

/- A term of two parts, as tele's bind makes it (function 136). Conditions: none. -/
set_option linter.unusedVariables false
set_option linter.unusedSimpArgs false
namespace Go.Proofs.Ytooaiddfokbffaa.E
open Go Go.Proofs
attribute [local go_sem] s_seq s_ops s_draw s_block s_skip s_ret s_exit i_nil i_cons i_run i_runG s_condQ c_true c_false aop ev_t ev_c updO_at updO_no upd_at t_normal t_ret t_exit b_normal b_ret b_exit a_some ac_v ac_agg ac_ptr ac_slc ac_ro ac_rop ac_fn new_next set_next argTm_zero argTm_succ argTm_nil ab_bool ab_uv beq_self_eq_true Option.some_beq_some Bool.not_not beq_iff_eq decide_true decide_false Bool.not_true Bool.not_false afld aload astore apack alen_str alen_ro alen_slc alen_nil new_get set_get ite_true ite_false Option.map_some Option.bind_some ibin isShift Nat.add_zero Nat.zero_add List.length_cons List.length_nil List.drop_zero List.drop_succ_cons List.take_succ_cons List.take_zero if_true if_false setL List.set_cons_zero List.set_cons_succ List.all_cons List.all_nil one_int one_bool one_str one_nil one_ptr one_slc one_ro one_rop one_fn Bool.and_self Bool.and_true true_and and_true and_self Bool.false_eq_true post_ret post_normal resAll resOne packR Option.some.injEq exists_eq_left' List.map_cons List.map_nil List.nil_append List.append_nil List.cons_append d_nil d_cons k_nil k_cons g_op g_same g_new avBlock forall_eq' List.getElem?_cons_succ List.getElem?_cons_zero List.getElem?_nil okind gOk bne false_imp_iff forall_const imp_self implies_true true_imp_iff i_callG

set_option maxRecDepth 100000 in
theorem node_ok (f : Int) (h : Bool) (a b : Tm) (ac bc : List AV) (ha : TmP a ac) (hb : TmP b bc) (H : AHeap) :
    SCall Try.prog 136 [aint f, abl h, .agg ac, .agg bc] H fun x H' => (∃ c, x = .agg c ∧ TmP (.mk f 0 h zeroS [] [a, b]) c) ∧ H' = H := by
  obtain ⟨ax, bx, hk1, v1, v2, v3, v4, v5, v6, v7, v8⟩ := ha.six
  obtain ⟨ay, by', hk2, w1, w2, w3, w4, w5, w6, w7, w8⟩ := hb.six
  subst hk1 hk2
  have hX : KsX [a, b] ([aint a.form, aint a.n, abl a.hid, .v (.string a.name), ax, bx] ++ ([aint b.form, aint b.n, abl b.hid, .v (.string b.name), ay, by'] ++ [])) := ⟨_, _, rfl, ha, _, _, rfl, hb, rfl⟩
  refine SCall.frz (R := fun x H' => Ext H H' ∧ ∃ B, H.next ≤ B ∧ x = .agg [aint f, aint 0, abl h, .v (.string zeroS), nils, .slc B 0 6 2 2 true] ∧ H'.get B = some (.cells ([aint a.form, aint a.n, abl a.hid, .v (.string a.name), ax, bx] ++ ([aint b.form, aint b.n, abl b.hid, .v (.string b.name), ay, by'] ++ []))))
    (G := fun x => ∃ c, x = .agg c ∧ TmP (.mk f 0 h zeroS [] [a, b]) c) (SCall.intro mixed cf136 ?_) ?_
  · have e1 : ¬ H.next = H.next + 1 := by omega
    have e2 : ¬ H.next + 1 = H.next := by omega
    have e3 : ¬ H.next = H.next + 1 + 1 := by omega
    have e4 : ¬ H.next + 1 + 1 = H.next := by omega
    have e5 : ¬ H.next + 1 = H.next + 1 + 1 := by omega
    have e6 : ¬ H.next + 1 + 1 = H.next + 1 := by omega
    simp -implicitDefEqProofs only [c136, go_sem, Nat.reduceEqDiff, Nat.reduceAdd, Nat.reduceLeDiff, ↓reduceIte, reduceCtorEq, Int.reduceBEq, Int.reduceBNe, Int.reduceLT, Int.reduceLE, Int.reduceGT, Int.reduceGE, Int.reduceNeg, Int.reduceAdd, Int.reduceSub, Nat.reduceMul, Nat.reduceLT, Int.reduceToNat, afill, v1, v2, v3, v4, w1, w2, w3, w4, e1, e2, e3, e4, e5, e6]
    exact ⟨(((((Ext.refl H).new _).new _).new _).new _).set (by omega) _, H.next + 1 + 1 + 1, by omega, rfl, by rw [if_neg (by omega), if_pos rfl]⟩
  · rintro _ _ x H' ⟨hE, B, h1, rfl, h2⟩ _
    have hf : FrzN H.next H' (.slc B 0 6 2 2 true) (.ro 2 2 true ([aint a.form, aint a.n, abl a.hid, .v (.string a.name), ax, bx] ++ ([aint b.form, aint b.n, abl b.hid, .v (.string b.name), ay, by'] ++ []))) := by
      refine .slc _ _ _ _ _ _ _ _ h2 h1 (by simp) fun i x y hx hy => ?_
      rw [Nat.zero_add] at hx
      rw [hx] at hy
      injection hy with hy
      subst hy
      exact .keep _ ((hX.old _ (List.mem_of_getElem? hx)).mono (Nat.zero_le _))
    exact ⟨hE, _, FrzN.six (.keep _ (.v _)) (.keep _ (.v _)) (.keep _ (.v _)) (.keep _ (.v _)) (.keep _ (.v _)) hf, _, rfl, tmp_mk sll_nil (SlK.of hX (.inr ⟨2, true, rfl, Nat.le_refl _⟩))⟩
end Go.Proofs.Ytooaiddfokbffaa.E

/- The closures that tele's bind makes (functions 91 and 135). Conditions: the argument is one cell. -/
set_option linter.unusedVariables false
set_option linter.unusedSimpArgs false
namespace Go.Proofs.Ytooaiddfokbffaa.E
open Go Go.Proofs
attribute [local go_sem] s_seq s_ops s_draw s_block s_skip s_ret s_exit i_nil i_cons i_run i_runG s_condQ c_true c_false aop ev_t ev_c updO_at updO_no upd_at t_normal t_ret t_exit b_normal b_ret b_exit a_some ac_v ac_agg ac_ptr ac_slc ac_ro ac_rop ac_fn new_next set_next argTm_zero argTm_succ argTm_nil ab_bool ab_uv beq_self_eq_true Option.some_beq_some Bool.not_not beq_iff_eq decide_true decide_false Bool.not_true Bool.not_false afld aload astore apack alen_str alen_ro alen_slc alen_nil new_get set_get ite_true ite_false Option.map_some Option.bind_some ibin isShift Nat.add_zero Nat.zero_add List.length_cons List.length_nil List.drop_zero List.drop_succ_cons List.take_succ_cons List.take_zero if_true if_false setL List.set_cons_zero List.set_cons_succ List.all_cons List.all_nil one_int one_bool one_str one_nil one_ptr one_slc one_ro one_rop one_fn Bool.and_self Bool.and_true true_and and_true and_self Bool.false_eq_true post_ret post_normal resAll resOne packR Option.some.injEq exists_eq_left' List.map_cons List.map_nil List.nil_append List.append_nil List.cons_append d_nil d_cons k_nil k_cons g_op g_same g_new avBlock forall_eq' List.getElem?_cons_succ List.getElem?_cons_zero List.getElem?_nil okind gOk bne false_imp_iff forall_const imp_self implies_true true_imp_iff i_callG

theorem hidF_ok (x : AV) (h1 : x.one = true) (h2 : x.acells = [x]) (H : AHeap) :
    SCall Try.prog 91 [x] H fun y H' => y = .fn (.func 137) [] [.ptr H.next 0] ∧ H' = H.new (.cells [x]) := by
  refine SCall.intro mixed cf91 ?_
  simp -implicitDefEqProofs only [c91, go_sem, Nat.reduceEqDiff, Nat.reduceAdd, Nat.reduceLeDiff, ↓reduceIte, reduceCtorEq, Int.reduceBEq, Int.reduceBNe, Int.reduceLT, Int.reduceLE, Int.reduceGT, Int.reduceGE, Int.reduceNeg, Int.reduceAdd, Int.reduceSub, Nat.reduceMul, Nat.reduceLT, Int.reduceToNat, h1, h2]
theorem inwards_ok (x : AV) (h1 : x.one = true) (h2 : x.acells = [x]) (H : AHeap) :
    SCall Try.prog 135 [x] H fun y H' => y = .fn (.func 175) [] [.ptr H.next 0] ∧ H' = H.new (.cells [x]) := by
  refine SCall.intro mixed cf135 ?_
  simp -implicitDefEqProofs only [c135, go_sem, Nat.reduceEqDiff, Nat.reduceAdd, Nat.reduceLeDiff, ↓reduceIte, reduceCtorEq, Int.reduceBEq, Int.reduceBNe, Int.reduceLT, Int.reduceLE, Int.reduceGT, Int.reduceGE, Int.reduceNeg, Int.reduceAdd, Int.reduceSub, Nat.reduceMul, Nat.reduceLT, Int.reduceToNat, h1, h2]
end Go.Proofs.Ytooaiddfokbffaa.E

/- What tele's bind makes, in plain: a telescope folded from its end. Conditions: none. -/
set_option linter.unusedVariables false
set_option linter.unusedSimpArgs false
namespace Go.Proofs.Ytooaiddfokbffaa.E
open Go Go.Proofs

def telT (f : Int) (hs : List Bool) : Nat → List Tm → Tm → Tm
  | _, [], body => body
  | i, k :: r, body => .mk f 0 (hidF hs i) zeroS [] [k, telT f hs (i + 1) r body]
theorem telT_drop (f : Int) (hs : List Bool) (body : Tm) {ks : List Tm} {i : Nat} (hi : i < ks.length) :
    telT f hs i (ks.drop i) body = .mk f 0 (hidF hs i) zeroS [] [ks[i], telT f hs (i + 1) (ks.drop (i + 1)) body] := by
  rw [List.drop_eq_getElem_cons hi]
  rfl
theorem telT_end (f : Int) (hs : List Bool) (body : Tm) (ks : List Tm) : telT f hs ks.length (ks.drop ks.length) body = body := by
  rw [List.drop_length]
  rfl
theorem piEx_tel : telT 3 [] 0 [set0, varTm 0] (varTm 1) = piEx := by
  simp [telT, piEx, hidF]
end Go.Proofs.Ytooaiddfokbffaa.E

/- The law TeleSpine, walked, where the example (alive) holds. Conditions: the example's contract is a premise of this text. -/
set_option linter.unusedVariables false
set_option linter.unusedSimpArgs false
namespace Go.Proofs.Ytooaiddfokbffaa.E
open Go Go.Proofs
attribute [local go_sem] s_seq s_ops s_draw s_block s_skip s_ret s_exit i_nil i_cons i_run i_runG s_condQ c_true c_false aop ev_t ev_c updO_at updO_no upd_at t_normal t_ret t_exit b_normal b_ret b_exit a_some ac_v ac_agg ac_ptr ac_slc ac_ro ac_rop ac_fn new_next set_next argTm_zero argTm_succ argTm_nil ab_bool ab_uv beq_self_eq_true Option.some_beq_some Bool.not_not beq_iff_eq decide_true decide_false Bool.not_true Bool.not_false afld aload astore apack alen_str alen_ro alen_slc alen_nil new_get set_get ite_true ite_false Option.map_some Option.bind_some ibin isShift Nat.add_zero Nat.zero_add List.length_cons List.length_nil List.drop_zero List.drop_succ_cons List.take_succ_cons List.take_zero if_true if_false setL List.set_cons_zero List.set_cons_succ List.all_cons List.all_nil one_int one_bool one_str one_nil one_ptr one_slc one_ro one_rop one_fn Bool.and_self Bool.and_true true_and and_true and_self Bool.false_eq_true post_ret post_normal resAll resOne packR Option.some.injEq exists_eq_left' List.map_cons List.map_nil List.nil_append List.append_nil List.cons_append d_nil d_cons k_nil k_cons g_op g_same g_new avBlock forall_eq' List.getElem?_cons_succ List.getElem?_cons_zero List.getElem?_nil okind gOk bne false_imp_iff forall_const imp_self implies_true true_imp_iff i_callG

theorem HidR.at {hs : List Bool} {x : AV} (h : HidR hs x) {i : Nat} (hil : i < hs.length) : ∃ cs, aix 1 (i : Int) x = some (.rop cs i) ∧ i + 1 ≤ cs.length ∧ (cs.drop i).take 1 = [abl hs[i]] := by
  rcases h with ⟨h0, _⟩ | ⟨lo, ex, cs, rfl, hlo, hcs⟩
  · omega
  refine ⟨cs, ?_, ?_, ?_⟩
  · simp only [aix]
    rw [if_pos (by omega)]
    simp
  · have := congrArg List.length hcs
    simp at this
    omega
  · have h1 : cs[i]? = some (abl hs[i]) := by
      have h2 : (cs.take hs.length)[i]? = some (abl hs[i]) := by rw [hcs]; simp [hil]
      rw [List.getElem?_take, if_pos hil] at h2
      exact h2
    have hlt2 := (List.getElem?_eq_some_iff.1 h1).1
    rw [List.drop_eq_getElem_cons hlt2, List.take_succ_cons, List.take_zero, (List.getElem?_eq_some_iff.1 h1).2]
theorem SlK.row {ks : List Tm} {x : AV} (h : SlK ks x) : ∃ cs, SlR ks.length x cs ∧ KsR ks cs ∧ ∀ z ∈ cs, Old 0 z := by
  obtain ⟨⟨cs, h1, h2⟩, h3⟩ := h
  rcases h1 with ⟨h0, rfl⟩ | ⟨lo, ex, rfl, hl⟩
  · have : ks = [] := List.length_eq_zero_iff.1 h0
    subst this
    exact ⟨[], .inl ⟨rfl, rfl⟩, trivial, fun z hz => by cases hz⟩
  · refine ⟨cs, .inr ⟨lo, ex, rfl, hl⟩, h2, ?_⟩
    cases h3 with | ro _ _ _ _ h => exact h

end Go.Proofs.Ytooaiddfokbffaa.E

/- Rows of terms that bind and Apply are handed: read only, or of the caller's own. Conditions: none. -/
set_option linter.unusedVariables false
set_option linter.unusedSimpArgs false
namespace Go.Proofs.Ytooaiddfokbffaa.E
open Go Go.Proofs

theorem KsR.takeX : ∀ {ks : List Tm} {cs : List AV}, KsR ks cs → (∀ z ∈ cs, Old 0 z) → KsX ks (cs.take (ks.length * 6))
  | [], cs, _, _ => by simp [KsX]
  | k :: r, cs, h, ho => by
    simp only [KsR] at h
    have h6 : 6 ≤ cs.length := by have := h.1.len; rw [List.length_take] at this; omega
    refine ⟨cs.take 6, (cs.drop 6).take (r.length * 6), ?_, ⟨h.1, fun y hy => ho y (List.mem_of_mem_take hy)⟩, h.2.takeX fun y hy => ho y (List.mem_of_mem_drop hy)⟩
    rw [List.length_cons, show (r.length + 1) * 6 = 6 + r.length * 6 by omega, List.take_add]

/-- A row of terms, as bind reads it: its elements in each later heap, and what it is with one more behind it. -/
structure RowAt (ks : List Tm) (x : AV) (H : AHeap) : Prop where
  one : x.one = true
  cells : x.acells = [x]
  len : ∀ G, alen G .slice x = some ks.length
  elt : ∀ i, (hi : i < ks.length) → ∃ p, aix 6 (i : Int) x = some p ∧ ∀ G, Ext H G → ∃ c, aload G 6 p = some c ∧ TmP ks[i] c
  app : ks.length ≤ 1000 → ∃ y, aslice 6 x none (some ks.length) (some ks.length) = some y ∧ ∀ (G : AHeap) (b : Nat) (t : Tm) (c : List AV), Ext H G → TmP t c → G.get b = some (.cells c) →
    ∃ l, aappend G 6 88 y (.slc b 0 6 1 1 true) = some (.slc G.next 0 6 (ks.length + 1) (ks.length + 1) false, G.new (.cells l)) ∧ KsX (ks ++ [t]) l

theorem RowAt.ext {ks : List Tm} {x : AV} {H G : AHeap} (h : RowAt ks x H) (hE : Ext H G) : RowAt ks x G :=
  ⟨h.one, h.cells, h.len, fun i hi => let ⟨p, h1, h2⟩ := h.elt i hi; ⟨p, h1, fun G' hG => h2 G' (hE.trans hG)⟩,
    fun hn => let ⟨y, h1, h2⟩ := h.app hn; ⟨y, h1, fun G' b t c hG => h2 G' b t c (hE.trans hG)⟩⟩

theorem asrc_one {G : AHeap} {b : Nat} {t : Tm} {c : List AV} (hT : TmP t c) (hb : G.get b = some (.cells c)) : asrc G 6 (.slc b 0 6 1 1 true) = some (1, c) := by
  have hl := hT.1.len
  simp only [asrc, hb]
  rw [if_pos ⟨trivial, by omega⟩, List.drop_zero, Nat.one_mul, List.take_of_length_le (by omega)]

theorem RowAt.ro {ks : List Tm} {x : AV} (h : SlK ks x) (H : AHeap) : RowAt ks x H := by
  obtain ⟨cs, h1, h2, h3⟩ := h.row
  refine ⟨h1.one, h1.cells, fun G => h1.alen G, fun i hi => ?_, fun hn => ?_⟩
  · refine ⟨_, h1.aix 6 hi, fun G _ => ?_⟩
    obtain ⟨kc, q1, q2, q3⟩ := h2.load (List.getElem?_eq_getElem hi)
    refine ⟨kc, ?_, q1, fun y hy => h3 y ?_⟩
    · simp only [aload]
      rw [if_pos q2, q3]
    · rw [← q3] at hy
      exact List.mem_of_mem_drop (List.mem_of_mem_take hy)
  · rcases h1 with ⟨h0, rfl⟩ | ⟨lo, ex, rfl, hlo⟩
    · have hk : ks = [] := List.length_eq_zero_iff.1 h0
      subst hk
      refine ⟨nils, by simp [aslice], fun G b t c _ hT hb => ?_⟩
      obtain ⟨_, _, _, _, _, _, _, _, _, _, hone⟩ := hT.six
      refine ⟨c, ?_, by simpa using KsX.snoc (ks := []) (cs := []) rfl hT⟩
      simp only [aappend, asrc_one hT hb]
      rw [if_neg (by simp [hone]), if_neg (by omega), if_pos (by omega)]
      rfl
    · by_cases h0 : ks.length = 0
      · have hk : ks = [] := List.length_eq_zero_iff.1 h0
        subst hk
        refine ⟨.ro 0 0 true [], by simp [aslice, acut], fun G b t c _ hT hb => ?_⟩
        obtain ⟨_, _, _, _, _, _, _, _, _, _, hone⟩ := hT.six
        refine ⟨c, ?_, by simpa using KsX.snoc (ks := []) (cs := []) rfl hT⟩
        simp only [aappend, asrc_one hT hb]
        rw [if_neg (by simp [hone]), if_pos (by simp)]
        rfl
      · have hm : max ks.length lo = lo := by omega
        refine ⟨.ro ks.length ks.length true cs, by simp [aslice, acut, hm, hlo, show 0 < ks.length by omega], fun G b t c _ hT hb => ?_⟩
        obtain ⟨_, _, _, _, _, _, _, _, _, _, hone⟩ := hT.six
        have hx := h2.takeX h3
        have hl := hx.len
        rw [List.length_take] at hl
        refine ⟨cs.take (ks.length * 6) ++ c, ?_, hx.snoc hT⟩
        simp only [aappend, asrc_one hT hb]
        rw [if_neg (by simp [hone]), if_pos ⟨trivial, by omega, by omega, by omega, by omega⟩]

theorem RowAt.own {ks : List Tm} {l : List AV} {b : Nat} {H : AHeap} (hb : H.get b = some (.cells l)) (hlt : b < H.next) (hX : KsX ks l) (h0 : 0 < ks.length) : RowAt ks (.slc b 0 6 ks.length ks.length true) H := by
  have hl := hX.len
  refine ⟨rfl, rfl, fun G => rfl, fun i hi => ?_, fun hn => ?_⟩
  · refine ⟨.ptr b (i * 6), ?_, fun G hE => ?_⟩
    · simp only [aix]
      rw [if_pos (by omega)]
      simp
    · obtain ⟨c, q1, q2, q3⟩ := hX.at hi
      refine ⟨c, ?_, q3⟩
      have hg : G.get b = some (.cells l) := (hE.2 b hlt).trans hb
      simp only [aload, hg]
      rw [if_pos q2, q1]
  · refine ⟨.slc b 0 6 ks.length ks.length true, by simp [aslice, acut, h0], fun G b' t c hE hT hb' => ?_⟩
    obtain ⟨_, _, _, _, _, _, _, _, _, _, hone⟩ := hT.six
    have hg : G.get b = some (.cells l) := (hE.2 b hlt).trans hb
    refine ⟨l ++ c, ?_, hX.snoc hT⟩
    simp only [aappend, asrc_one hT hb', hg]
    rw [if_neg (by simp [hone]), if_pos ⟨trivial, by omega⟩, if_neg (by omega), if_neg (by omega), if_pos ⟨by omega, by omega⟩, if_pos trivial, List.drop_zero, List.take_of_length_le (by omega)]

end Go.Proofs.Ytooaiddfokbffaa.E

/- Ranges over functions, over abstract states: loops' records lie in the abstract heap. Conditions: none. -/
set_option linter.unusedVariables false
set_option linter.unusedSimpArgs false
namespace Go.Proofs.Ytooaiddfokbffaa.E
open Go

/-- What an activation has put off: marks of loops over functions. -/
inductive ADef where
  | mark

/-- The marks among what an activation has put off, the latest first; their blocks are no block of the embedding. -/
inductive DRel (e : Emb) (w : World) (lo : Nat) : Nat → List ADef → List Deferred → Prop
  | nil (B : Nat) : DRel e w lo B [] []
  | mark (B D : Nat) (ds : List ADef) (Ds : List Deferred) (h1 : lo ≤ D) (h2 : D < B) (h3 : w.heap[D]? = some (.deferred (some []))) (h4 : ¬ e.hits D) (h : DRel e w lo D ds Ds) :
      DRel e w lo B (.mark :: ds) ({ target := .collected D, args := #[] } :: Ds)

theorem DRel.evo {e e' : Emb} {w w' : World} {lo B : Nat} {ds : List ADef} {Ds : List Deferred} (hv : Evo0 e w e' w') (h : DRel e w lo B ds Ds) : DRel e' w' lo B ds Ds := by
  induction h with
  | nil B => exact .nil B
  | mark B D ds Ds h1 h2 h3 h4 h ih =>
    have hlt := (Array.getElem?_eq_some_iff.1 h3).1
    exact .mark B D ds Ds h1 h2 (by rw [hv.frame D hlt h4]; exact h3) (hv.nhits hlt h4) ih

theorem DRel.more {e : Emb} {w : World} {lo B B' : Nat} (hB : B ≤ B') {ds : List ADef} {Ds : List Deferred} (h : DRel e w lo B ds Ds) : DRel e w lo B' ds Ds := by
  cases h with
  | nil => exact .nil _
  | mark _ D ds Ds h1 h2 h3 h4 h => exact .mark _ D ds Ds h1 (by omega) h3 h4 h

/-! ### Blocks beside the embedding -/
section
variable {e : Emb} {w : World} {H : AHeap} {P : Program}

theorem Evo.beside (e : Emb) (w : World) (o : Obj) : Evo e w e (w.alloc o) :=
  ⟨⟨rfl, rfl, rfl, by simp, fun c hc _ => heap_alloc_old w o hc, Nat.le_refl _, fun _ _ h => h, fun _ h => .inr h, fun c cs t fr hc => ⟨cs, t, fr, by rw [heap_alloc_old w o (Array.getElem?_eq_some_iff.1 hc).1, hc], rfl⟩⟩, fun _ _ h => h⟩

theorem HRel.beside (hH : HRel e H w) (o : Obj) : HRel e H (w.alloc o) :=
  hH.of_same (Evo.beside e w o) fun c ⟨b, hb, _⟩ => heap_alloc_old w o (hH.lt b c hb)

/-- A block that is none of cells, and none of the embedding, becomes another. -/
theorem VRel.putBeside {D : Nat} {o : Obj} (hD : ∀ cs t fr, w.heap[D]? ≠ some (.cells cs t fr)) {x : AV} {u : Value} (h : VRel e w x u) : VRel e (w.putObj D o) x u := by
  have cell : ∀ {a : Addr} {u : Value}, w.cell? a = some u → (w.putObj D o).cell? a = some u := by
    intro a u hc
    have hne : a.block ≠ D := by
      intro hh
      unfold World.cell? at hc
      split at hc
      · rename_i c t fr hx
        exact hD c t fr (by rw [← hh]; exact hx)
      · cases hc
    unfold World.cell? at hc ⊢
    rw [World.putObj_heap_other hne]
    exact hc
  induction h with
  | v x h => exact .v x h
  | ptr b off c hc => exact .ptr b off c hc
  | slc b off es len lo ex c k hm hl hlo hcap cs t fr hw hs =>
    refine .slc b off es len lo ex c k hm hl hlo hcap cs t fr ?_ hs
    rw [World.putObj_heap_other (fun (hh : c = D) => hD cs t fr (by rw [← hh]; exact hw))]
    exact hw
  | ro len lo ex cells a k us hl hlo hcap hn hs hr ih => exact .ro len lo ex cells a k us hl hlo hcap hn (fun i u hu => ⟨cell (hs i u hu).1, (hs i u hu).2⟩) ih
  | rop cells off a us hn hs hr ih => exact .rop cells off a us hn (fun i u hu => ⟨cell (hs i u hu).1, (hs i u hu).2⟩) ih
  | fn f first captured fs cs hf hc h1 h2 ih1 ih2 => exact .fn f first captured fs cs hf hc ih1 ih2
  | agg cells cs hn h ih => exact .agg cells cs hn ih
  | tup vs cs hn h ih => exact .tup vs cs hn ih
  | ifc t x u h ih => exact .ifc t x u ih
  | mp b r hm => exact .mp b r hm
  | ch b r hm => exact .ch b r hm
  | yld b r hm => exact .yld b r hm

theorem HRel.putBeside (hH : HRel e H w) {D : Nat} {o : Obj} (hD : ∀ cs t fr, w.heap[D]? ≠ some (.cells cs t fr)) (hh : ¬ e.hits D) : HRel e H (w.putObj D o) := by
  have vr : ∀ {x : AV} {u : Value}, VRel e w x u → VRel e (w.putObj D o) x u := fun h => h.putBeside hD
  refine ⟨hH.next, hH.fresh, hH.inj, hH.dom, fun b ob c hb hc => ?_, hH.get, fun b c hc => by rw [World.putObj_size]; exact hH.lt b c hc⟩
  obtain ⟨h1, h2⟩ := hH.obj b ob c hb hc
  refine ⟨h1, ?_⟩
  have hne : c ≠ D := fun hcc => hh ⟨b, by rw [← hcc]; exact hc, h1⟩
  have hk : (w.putObj D o).heap[c]? = w.heap[c]? := World.putObj_heap_other hne
  cases ob with
  | cells l => obtain ⟨cs, t, k1, k2⟩ := h2; exact ⟨cs, t, hk.trans k1, fun i x hx => let ⟨u, h3, h4⟩ := k2 i x hx; ⟨u, h3, vr h4⟩⟩
  | map es clock => obtain ⟨ens, k1, k2, k3⟩ := h2; exact ⟨ens, hk.trans k1, k2, fun i k v n ent h4 h5 => let ⟨a, b, c⟩ := k3 i k v n ent h4 h5; ⟨vr a, vr b, c⟩⟩
  | iterS s p => exact hk.trans h2
  | chan cap buf closed s r => obtain ⟨us, k1, k2⟩ := h2; exact ⟨us, hk.trans k1, k2.1, fun i x u hx hu => vr (k2.2 i x u hx hu)⟩
  | loop L => obtain ⟨r, k1, k2, k3, k4, k5, k6⟩ := h2; exact ⟨r, hk.trans k1, k2, k3, k4, fun n => vr (k5 n), k6⟩
  | iterM m since seen last => obtain ⟨mc, k1, k2⟩ := h2; exact ⟨mc, k1, hk.trans k2⟩
  | iterN => exact hk.trans h2

/-- A block of the embedding that is none of cells becomes another. -/
theorem Evo.putObj {D : Nat} {o : Obj} (b : Nat) (hb : e.map b = some D) (hl : e.live b = true) (hD : ∀ cs t fr, w.heap[D]? ≠ some (.cells cs t fr)) : Evo e w e (w.putObj D o) :=
  ⟨⟨rfl, rfl, rfl, by simp, fun c hc hn => World.putObj_heap_other (fun (hh : c = D) => hn ⟨b, by rw [hh]; exact hb, hl⟩), Nat.le_refl _, fun _ _ h => h, fun _ h => .inr h,
    fun c cs t fr hc => ⟨cs, t, fr, by rw [World.putObj_heap_other (fun (hh : c = D) => hD cs t fr (by rw [← hh]; exact hc))]; exact hc, rfl⟩⟩, fun _ _ h => h⟩

/-- The record of a loop is turned. -/
theorem HRel.setLoop (hH : HRel e H w) {b c : Nat} {L L' : ALoop} (hb : H.get b = some (.loop L)) (hc : e.map b = some c) {r r' : Loop} (hr : w.heap[c]? = some (.loop r))
    (h : r'.state = L'.st ∧ r'.pending = L'.pend ∧ L'.n ≤ r'.tmps.size ∧ (∀ n, VRel e w (L'.tm n) (r'.tmps.getD n undef)) ∧ r'.params = L'.ps ∧ r'.assign = L'.ca ∧ r'.body = L'.cb) :
    HRel e (H.set b (.loop L')) (w.putObj c (.loop r')) ∧ Evo e w e (w.putObj c (.loop r')) := by
  have hD : ∀ cs t fr, w.heap[c]? ≠ some (.cells cs t fr) := fun cs t fr hh => by rw [hr] at hh; cases hh
  have hv := Evo.putObj (o := .loop r') b hc (hH.obj b _ c hb hc).1 hD
  refine ⟨hH.turn hb hc hv (fun c' hne => World.putObj_heap_other hne) ?_, hv⟩
  obtain ⟨h1, h2, h3, h4, h5⟩ := h
  exact ⟨r', World.putObj_heap_same (Array.getElem?_eq_some_iff.1 hr).1, h1, h2, h3, fun n => (h4 n).evo hv, h5⟩

end

/-! ### Code with ranges over functions -/
def thenX (K : ASt → List ADef → Prop) (Q : AExit → ASt → List ADef → Prop) : AExit → ASt → List ADef → Prop
  | .normal, st, ds => K st ds
  | e, st, ds => Q e st ds

def inBlockX (id : Nat) (Q : AExit → ASt → List ADef → Prop) : AExit → ASt → List ADef → Prop
  | .exit id', st, ds => if id' = id then Q .normal st ds else Q (.exit id') st ds
  | e, st, ds => Q e st ds

/-- Blocks are frozen, wherever they are led to. -/
inductive Fz : ASt → ASt → Prop
  | refl (st : ASt) : Fz st st
  | step {st st1 st2 : ASt} (b : Nat) (l : List AV) (hb : st.heap.get b = some (.cells l)) (ht : ∀ n, FrzK b l (st.tm n) (st1.tm n)) (hn : st1.heap.next = st.heap.next) (h0 : st1.heap.get b = none)
      (ho : ∀ x, x ≠ b → st1.heap.get x = st.heap.get x ∨ ∃ c c', st.heap.get x = some (.cells c) ∧ st1.heap.get x = some (.cells c') ∧ FrzKs b l c c') (h : Fz st1 st2) : Fz st st2

def loopX (body : (AExit → ASt → List ADef → Prop) → ASt → List ADef → Prop) (Q : AExit → ASt → List ADef → Prop) : Nat → ASt → List ADef → Prop
  | 0, _, _ => False
  | n + 1, st, ds => ∃ st', Fz st st' ∧ body (thenX (loopX body Q n) Q) st' ds

/-- What is done behind a loop over a function: the jump that a round has left. -/
def afterX (Q : AExit → ASt → List ADef → Prop) (st : ASt) (ds : List ADef) : Option Code → Prop
  | none => Q .normal st ds
  | some .ret => Q .ret st ds
  | some (.exit id) => Q (.exit id) st ds
  | _ => False

/-- As swp, of code with ranges over functions; 'cx': the record of the loop in whose round the code stands. -/
def swpX (P : Program) (cx : Option Nat) : ACode → (AExit → ASt → List ADef → Prop) → ASt → List ADef → Prop
  | .seq a b, Q, st, ds => swpX P cx a (thenX (swpX P cx b Q) Q) st ds
  | .cond c x y, Q, st, ds => match c.ev st.tm with
    | .v (.bool t) => if t = true then swpX P cx x Q st ds else swpX P cx y Q st ds
    | _ => False
  | .block id b, Q, st, ds => swpX P cx b (inBlockX id Q) st ds
  | .loop b, Q, st, ds => ∃ n, loopX (swpX P cx b) Q n st ds
  | .rangeF g ps n ca cb _ _, Q, st, ds =>
      (∀ b0, cx = some b0 → ∃ L0, st.heap.get b0 = some (.loop L0)) ∧
      ∃ gf fs cs, g.ev st.tm = .fn (.func gf) fs cs ∧
        SCall P gf (fs ++ (.yld st.heap.next :: cs)) (st.heap.new (.loop ⟨.ready, none, n, st.tm, ps, ca, cb⟩)) fun _ H2 =>
          ∃ L2, H2.get st.heap.next = some (.loop L2) ∧ L2.st ≠ .busy ∧
            afterX Q ⟨st.tm, H2.set st.heap.next (.loop { L2 with st := .exhausted })⟩ (if cx.isNone then .mark :: ds else ds) L2.pend
  | .skip, Q, st, ds => Q .normal st ds
  | .ret, Q, st, ds => Q .ret st ds
  | .ops l, Q, st, ds => swpI P l (fun st => Q .normal st ds) st
  | .draw l, Q, st, ds => swpD P [] l (fun st => Q .normal st ds) st
  | .exit id, Q, st, ds => Q (.exit id) st ds

/-- What is said of the record of the loop in whose round code stands. -/
def CxRel (e : Emb) : Option Nat → Option Nat → Prop
  | none, none => True
  | some b, some l => e.map b = some l
  | _, _ => False

theorem CxRel.evo {e e' : Emb} {w w' : World} (hv : Evo0 e w e' w') {cx rd : Option Nat} (h : CxRel e cx rd) : CxRel e' cx rd := by
  cases cx <;> cases rd <;> simp only [CxRel] at h ⊢
  exact hv.old _ _ h

section
variable {rd : Option Nat} {n : Nat} {P : Program} {N : Nat} {plans : List (Nat × List (Nat × List Nat))} {cx : Option Nat}

/-- As StRel, with what the activation has put off. -/
structure StX (lo B : Nat) (cx rd : Option Nat) (N : Nat) (e : Emb) (st : ASt) (ds : List ADef) (a : Act) (w : World) : Prop where
  heap : HRel e st.heap w
  tm : TRel e w st.tm a
  size : N ≤ a.tmps.size
  defs : DRel e w lo B ds a.defers
  cx : CxRel e cx rd
  bd : B ≤ w.heap.size

theorem StX.rel {lo B : Nat} {rd : Option Nat} {e : Emb} {st : ASt} {ds : List ADef} {a : Act} {w : World} (h : StX lo B cx rd N e st ds a w) : StRel a.defers N e st a w := ⟨h.heap, h.tm, h.size, rfl⟩

theorem StX.next {lo B : Nat} {e e' : Emb} {st st' : ASt} {ds : List ADef} {a a' : Act} {w w' : World} (h : StX lo B cx rd N e st ds a w) (hs : StRel a.defers N e' st' a' w') (hv : Evo e w e' w') : StX lo B cx rd N e' st' ds a' w' :=
  ⟨hs.heap, hs.tm, hs.size, by rw [hs.defers]; exact h.defs.evo hv.toEvo0, h.cx.evo hv.toEvo0, Nat.le_trans h.bd hv.size⟩

theorem HRel.killMap {e : Emb} {H H' : AHeap} {w : World} (hH : HRel e H w) {b : Nat} {l : List AV} (hb : H.get b = some (.cells l)) (hn : H'.next = H.next) (h0 : H'.get b = Option.none)
    (ho : ∀ x, x ≠ b → H'.get x = H.get x ∨ ∃ c c', H.get x = some (.cells c) ∧ H'.get x = some (.cells c') ∧ FrzKs b l c c') : HRel (e.kill b) H' w := by
  have hv := Evo.kill e w b
  refine ⟨hH.next.trans hn.symm, fun x hx => hH.fresh x (by omega), fun x y c hx hy lx ly => ?_, fun x c hx lx => ?_, fun x o c ho' hx => ?_, fun x o ho' => ?_, hH.lt⟩
  · rw [kill_live] at lx ly
    split at lx
    · cases lx
    · split at ly
      · cases ly
      · exact hH.inj x y c hx hy lx ly
  · rw [kill_live] at lx
    split at lx
    · cases lx
    · rename_i hne
      obtain ⟨o, h1⟩ := hH.dom x c hx lx
      rcases ho x hne with h2 | ⟨c1, c2, h2, h3, _⟩
      · exact ⟨o, h2.trans h1⟩
      · exact ⟨_, h3⟩
  · have hne : x ≠ b := fun hh => by rw [hh, h0] at ho'; cases ho'
    rw [kill_live, if_neg hne]
    rcases ho x hne with h2 | ⟨c1, c2, h2, h3, h4⟩
    · rw [h2] at ho'
      obtain ⟨h5, h6⟩ := hH.obj x o c ho' hx
      exact ⟨h5, h6.evo hv rfl⟩
    · rw [h3] at ho'
      cases ho'
      obtain ⟨h5, ws, t, h6, h7⟩ := hH.obj x _ c h2 hx
      refine ⟨h5, ws, t, h6, fun i y hy => ?_⟩
      have hi : i < c1.length := by rw [← h4.len]; exact (List.getElem?_eq_some_iff.1 hy).1
      obtain ⟨u, h8, h9⟩ := h7 i _ (List.getElem?_eq_getElem hi)
      exact ⟨u, h8, (h4.get i _ y (List.getElem?_eq_getElem hi) hy).rel hH hb u h9⟩
  · by_cases hne : x = b
    · rw [hne, h0] at ho'; cases ho'
    · rw [hn]
      rcases ho x hne with h2 | ⟨c1, c2, h2, h3, _⟩
      · rw [h2] at ho'; exact hH.get x o ho'
      · exact hH.get x _ h2

theorem Fz.sound {lo B : Nat} {ds : List ADef} {a : Act} {w : World} {st st' : ASt} (h : Fz st st') : ∀ {e : Emb}, StX lo B cx rd N e st ds a w → ∃ e', StX lo B cx rd N e' st' ds a w ∧ Evo e w e' w := by
  induction h with
  | refl st => exact fun {e} hS => ⟨e, hS, Evo.refl e w⟩
  | step b l hb ht hn h0 ho h ih =>
    intro e hS
    have hv := Evo.kill e w b
    obtain ⟨e', h1, h2⟩ := ih (e := e.kill b) ⟨hS.heap.killMap hb hn h0 ho, fun n => (ht n).rel hS.heap hb _ (hS.tm n), hS.size, hS.defs.evo hv.toEvo0, hS.cx.evo hv.toEvo0, hS.bd⟩
    exact ⟨e', h1, hv.trans h2⟩

theorem getLoop_of {e : Emb} {H : AHeap} {w : World} (hH : HRel e H w) {b c : Nat} {L : ALoop} (hb : H.get b = some (.loop L)) (hc : e.map b = some c) :
    e.live b = true ∧ ∃ r : Loop, w.heap[c]? = some (.loop r) ∧ r.state = L.st ∧ r.pending = L.pend ∧ L.n ≤ r.tmps.size ∧ (∀ n, VRel e w (L.tm n) (r.tmps.getD n undef)) ∧ r.params = L.ps ∧ r.assign = L.ca ∧ r.body = L.cb := hH.obj b _ c hb hc

theorem after_sound {lo B : Nat} {e0 e : Emb} {w0 w : World} {Q : AExit → ASt → List ADef → Prop} {QQ : Exit → Act → World → Prop} {F : Fence} {st : ASt} {ds : List ADef} {a : Act} {o : Option Code} (h : afterX Q st ds o) (hS : StX lo B cx rd N e st ds a w) (hv : Evo e0 w0 e w)
    (hQ : ∀ x st' ds' a' w' e' B', Q x st' ds' → StX lo B' cx rd N e' st' ds' a' w' → Evo e0 w0 e' w' → QQ (exitOf x) a' w') :
    (o = none → QQ .normal a w) ∧ ∀ c, o = some c → c.wpIn F n P QQ a w := by
  cases o with
  | none => exact ⟨fun _ => hQ .normal _ _ _ _ _ _ h hS hv, fun c hc => by cases hc⟩
  | some c =>
    refine ⟨fun hc => (by cases hc), fun c' hc => ?_⟩
    cases hc
    cases c with
    | ret => exact wpIn_ret (hQ .ret _ _ _ _ _ _ h hS hv)
    | exit id => exact wpIn_exit (hQ (.exit id) _ _ _ _ _ _ h hS hv)
    | _ => exact h.elim

theorem run_enterLoop_in {w : World} {l₀ : Nat} {r₀ : Loop} (h : w.heap[l₀]? = some (.loop r₀)) (fn : FuncId) (tmps : Array Value) (ps : Array Tmp) (assign body : Code) :
    (Instr.enterLoop fn tmps ps assign body (some l₀)).run P w =
      .ok (w.heap.size, []) (w.alloc (.loop { state := .ready, pending := none, fn, tmps, params := ps, assign, body, defers := r₀.defers })) := by
  unfold Instr.enterLoop
  simp only [Sem.run_bind, run_getLoop h, run_newObj_alloc, Result.andThen, Sem.run_pure]

/-- A record is laid. -/
theorem HRel.newLoop {e : Emb} {H : AHeap} {w : World} (hH : HRel e H w) (L : ALoop) (r : Loop) (h : r.state = L.st ∧ r.pending = L.pend ∧ L.n ≤ r.tmps.size ∧ (∀ n, VRel e w (L.tm n) (r.tmps.getD n undef)) ∧ r.params = L.ps ∧ r.assign = L.ca ∧ r.body = L.cb) :
    HRel (e.push w.heap.size) (H.new (.loop L)) (w.alloc (.loop r)) ∧ Evo e w (e.push w.heap.size) (w.alloc (.loop r)) := by
  have hv := Evo.alloc hH (.loop r)
  obtain ⟨h1, h2, h3, h4, h5⟩ := h
  exact ⟨hH.alloc _ _ ⟨r, heap_alloc_new w _, h1, h2, h3, fun n => (h4 n).evo hv, h5⟩, hv⟩

theorem swpX_sound (hm : P.follows .mixedOrders = true) {lo : Nat} : ∀ (c : Code) (ac : ACode), compCode P N plans c = some ac → ∀ (B : Nat) (e : Emb) (w : World) (st : ASt) (ds : List ADef) (a : Act), StX lo B cx rd N e st ds a w → lo ≤ w.heap.size →
    ∀ (Q : AExit → ASt → List ADef → Prop), swpX P cx ac Q st ds → ∀ (QQ : Exit → Act → World → Prop), (∀ x st' ds' a' w' e' B', Q x st' ds' → StX lo B' cx rd N e' st' ds' a' w' → Evo e w e' w' → QQ (exitOf x) a' w') → c.wpIn (Rr rd) n P QQ a w := by
  intro c
  induction c with
  | skip =>
    intro ac hc B e w st ds a hS hlo Q h QQ hQ
    simp only [compCode, Option.some.injEq] at hc
    subst hc
    exact wpIn_skip (hQ .normal _ _ _ _ _ _ h hS (Evo.refl e w))
  | label l =>
    intro ac hc B e w st ds a hS hlo Q h QQ hQ
    simp only [compCode, Option.some.injEq] at hc
    subst hc
    exact wpIn_label (hQ .normal _ _ _ _ _ _ h hS (Evo.refl e w))
  | ret =>
    intro ac hc B e w st ds a hS hlo Q h QQ hQ
    simp only [compCode, Option.some.injEq] at hc
    subst hc
    exact wpIn_ret (hQ .ret _ _ _ _ _ _ h hS (Evo.refl e w))
  | exit id =>
    intro ac hc B e w st ds a hS hlo Q h QQ hQ
    simp only [compCode, Option.some.injEq] at hc
    subst hc
    exact wpIn_exit (hQ (.exit id) _ _ _ _ _ _ h hS (Evo.refl e w))
  | region id ops draw =>
    intro ac hc B e w st ds a hS hlo Q h QQ hQ
    simp only [compCode] at hc
    split at hc
    · rename_i hd
      subst hd
      split at hc
      · rename_i L hL
        split at hc
        · rename_i hok
          injection hc with hc
          subst hc
          exact draw_sound hm (planOk_spec hL hok) hS.rel h fun st' a' w' e' k hs hv => hQ .normal _ _ _ _ _ _ k (hS.next hs hv) hv
        · cases hc
      · cases hc
    · rename_i hd
      have : draw = false := by simpa using hd
      subst this
      simp only [Option.map_eq_some_iff] at hc
      obtain ⟨is, his, rfl⟩ := hc
      exact wpIn_region_list (list_sound ops.toList is his e w st a hS.rel _ h QQ fun st' a' w' e' k hs hv => hQ .normal _ _ _ _ _ _ k (hS.next hs hv) hv)
  | seq x y ihx ihy =>
    intro ac hc B e w st ds a hS hlo Q h QQ hQ
    simp only [compCode] at hc
    split at hc
    · rename_i ax ay hx hy
      injection hc with hc
      subst hc
      refine wpIn_seq (ihx ax hx B e w st ds a hS hlo _ h _ fun q st' ds' a' w' e' B' k hs hv => ?_)
      cases q with
      | normal => exact ihy ay hy B' e' w' st' ds' a' hs (Nat.le_trans hlo hv.size) Q k QQ fun q2 st2 ds2 a2 w2 e2 B2 k2 hs2 hv2 => hQ q2 st2 ds2 a2 w2 e2 B2 k2 hs2 (hv.trans hv2)
      | ret => exact hQ .ret _ _ _ _ _ _ k hs hv
      | exit id => exact hQ (.exit id) _ _ _ _ _ _ k hs hv
    · cases hc
  | cond c x y ihx ihy =>
    intro ac hc B e w st ds a hS hlo Q h QQ hQ
    simp only [compCode] at hc
    split at hc
    · rename_i z ax ay hz hx hy
      injection hc with hc
      subst hc
      simp only [swpX] at h
      split at h
      · rename_i t ht
        have hv := carg_rel hS.tm hz
        rw [ht] at hv
        generalize hu : a.eval c = u at hv
        cases hv
        cases t with
        | true => exact wpIn_cond_true hu (ihx ax hx B e w st ds a hS hlo Q (by simpa using h) QQ hQ)
        | false => exact wpIn_cond_false hu (ihy ay hy B e w st ds a hS hlo Q (by simpa using h) QQ hQ)
      · exact h.elim
    · cases hc
  | block id b ih =>
    intro ac hc B e w st ds a hS hlo Q h QQ hQ
    simp only [compCode, Option.map_eq_some_iff] at hc
    obtain ⟨ab, hb, rfl⟩ := hc
    refine wpIn_block (ih ab hb B e w st ds a hS hlo _ h _ fun q st' ds' a' w' e' B' k hs hv => ?_)
    cases q with
    | normal => exact hQ .normal _ _ _ _ _ _ k hs hv
    | ret => exact hQ .ret _ _ _ _ _ _ k hs hv
    | exit id' =>
      simp only [inBlockX] at k
      simp only [exitOf, Exit.inBlock]
      split at k
      · rename_i hid
        rw [if_pos hid]
        exact hQ .normal _ _ _ _ _ _ k hs hv
      · rename_i hid
        rw [if_neg hid]
        exact hQ (.exit id') _ _ _ _ _ _ k hs hv
  | loop b ih =>
    intro ac hc B e w st ds a hS hlo Q h QQ hQ
    simp only [compCode, Option.map_eq_some_iff] at hc
    obtain ⟨ab, hb, rfl⟩ := hc
    obtain ⟨m, hn⟩ := h
    refine wpIn_loop_rounds m ?_
    induction m generalizing B e w st ds a with
    | zero => exact hn.elim
    | succ m ihn =>
      obtain ⟨st0, hfz, hn⟩ := hn
      obtain ⟨e0, hS0, hv0⟩ := hfz.sound hS
      refine ih ab hb B e0 w st0 ds a hS0 hlo _ hn _ fun q st' ds' a' w' e' B' k hs hv => ?_
      replace hv := hv0.trans hv
      cases q with
      | normal => exact ihn B' e' w' st' ds' a' hs (Nat.le_trans hlo hv.size) (fun q2 st2 ds2 a2 w2 e2 B2 k2 hs2 hv2 => hQ q2 st2 ds2 a2 w2 e2 B2 k2 hs2 (hv.trans hv2)) k
      | ret => exact hQ .ret _ _ _ _ _ _ k hs hv
      | exit id => exact hQ (.exit id) _ _ _ _ _ _ k hs hv
  | scope b ih =>
    intro ac hc B e w st ds a hS hlo Q h QQ hQ
    simp only [compCode] at hc
    refine wpIn_scope_straight (ih ac hc B e w st ds a hS hlo Q h _ fun q st' ds' a' w' e' B' k hs hv => ?_)
    have := hQ q st' ds' a' w' e' B' k hs hv
    cases q <;> exact this
  | rangeFunc g ps x y ihx ihy =>
    intro ac hc B e w st ds a hS hlo Q h QQ hQ
    simp only [compCode] at hc
    split at hc
    case h_2 => cases hc
    rename_i g' ax ay hg hx hy
    injection hc with hc
    subst hc
    obtain ⟨hcx, gf, fs, cs, hgv, ⟨fnc, q1, q2, q3⟩, hcall⟩ := h
    refine wpIn_rangeFunc fun fn hfn => ?_
    have hvg := carg_rel hS.tm hg
    rw [hgv] at hvg
    generalize hug : a.eval g = ug at hvg
    cases hvg with
    | fn _ _ _ ufs ucs hn1 hn2 hr1 hr2 =>
    -- the worlds behind the laying of the record
    have key : ∀ (w1 : World) (l : Nat) (mark : List Deferred) (r : Loop) (B1 : Nat), (Instr.enterLoop fn a.tmps ps x y (Rr rd).round).run P w = .ok (l, mark) (w1.alloc (.loop r)) → l = w1.heap.size →
        Evo e w e w1 → HRel e st.heap w1 → (r.state = .ready ∧ r.pending = none ∧ r.tmps = a.tmps ∧ r.params = ps ∧ r.assign = x ∧ r.body = y) →
        DRel e w1 lo B1 (if cx.isNone then .mark :: ds else ds) (mark ++ a.defers) → B1 ≤ w1.heap.size →
        ∃ (l : Nat) (mark : List Deferred) (w₁ : World) (d : Deferred) (w₁' : World) (f : FuncId) (args : Array Value) (w₂ : World),
          (Instr.enterLoop fn a.tmps ps x y (Rr rd).round).run P w = .ok (l, mark) w₁ ∧ (resolve a.eval (rangeCall g l) 0).run P w₁ = .ok d w₁' ∧
          (∀ f', Target.leads P w₁' d.target d.args = some f' → (Rr rd).fn f') ∧ (invoke d.target d.args).run P w₁' = .ok (.enter f args) w₂ ∧
          ((Rr rd).depth.isSome = true → 1 ≤ n) ∧ CallsIn (Rr rd) (n - 1) P f args w₂ (rangePost (Rr rd) n P l QQ { a with defers := mark ++ a.defers }) := by
      intro w1 l mark r B1 he hl hv1 hH1 hr hD1 hB1
      subst hl
      obtain ⟨hr1', hr2', hr3', hr4', hr5', hr6'⟩ := hr
      have hT1 : ∀ n, VRel e w1 (st.tm n) (r.tmps.getD n undef) := fun n => by rw [hr3']; exact (hS.tm n).evo hv1
      obtain ⟨hH2, hv2⟩ := hH1.newLoop ⟨.ready, none, N, st.tm, ps, x, y⟩ r ⟨hr1', hr2', by rw [hr3']; exact hS.size, hT1, hr4', hr5', hr6'⟩
      have hv12 := hv1.trans hv2
      have hln : e.next = st.heap.next := hS.heap.next
      refine ⟨w1.heap.size, mark, w1.alloc (.loop r), { target := .fn (.func gf) ucs, args := ufs ++ #[.func (.yield w1.heap.size) #[] #[]] }, w1.alloc (.loop r), gf, (ufs ++ #[.func (.yield w1.heap.size) #[] #[]]) ++ ucs, w1.alloc (.loop r), he, ?_, fun f' _ => trivial, ?_, fun hd => (by simp [Fence.wide] at hd), ?_⟩
      · simp only [resolve, hug]
        simp [go_sem, Act.eval]
      · simp only [invoke]
        exact runs_enter q1 q2 q3 _
      · refine (show CallsIn Fence.wide (n - 1) P gf _ _ _ from callsIn_wide.2 ?_)
        have LF : LRel (e.push w1.heap.size) (w1.alloc (.loop r)) fs ufs.toList := ⟨by simpa using hn1, fun i x u r1 r2 => (hr1 i x u r1 (by simpa using r2)).evo hv12⟩
        have LC : LRel (e.push w1.heap.size) (w1.alloc (.loop r)) cs ucs.toList := ⟨by simpa using hn2, fun i x u r1 r2 => (hr2 i x u r1 (by simpa using r2)).evo hv12⟩
        have hy0 : VRel (e.push w1.heap.size) (w1.alloc (.loop r)) (.yld st.heap.next) (.func (.yield w1.heap.size) #[] #[]) := .yld _ _ (by rw [push_map, if_pos hln.symm])
        have hC := hcall _ _ _ hH2 (LF.append (LRel.cons hy0 LC))
        have hargs : (ufs.toList ++ (Value.func (.yield w1.heap.size) #[] #[] :: ucs.toList)).toArray = ufs ++ #[Value.func (.yield w1.heap.size) #[] #[]] ++ ucs := by apply Array.ext'; simp
        rw [hargs] at hC
        refine Calls.mono hC fun en w3 hp => ?_
        obtain ⟨u, xv, H3, e3, rfl, ⟨L2, k1, k2, k3⟩, h3, _, hv3⟩ := hp
        have hm3 : e3.map st.heap.next = some w1.heap.size := hv3.old _ _ (by rw [push_map, if_pos hln.symm])
        obtain ⟨hlive, r2, m1, m2, m3, m4, m5, m6, m7, m8⟩ := getLoop_of h3 k1 hm3
        obtain ⟨hH4, hv4⟩ := h3.setLoop (L' := { L2 with st := .exhausted }) k1 hm3 m1 (r' := { r2 with state := .exhausted }) ⟨rfl, m3, m4, m5, m6, m7, m8⟩
        refine ⟨L2.pend, _, (by rw [← m3]; exact run_endLoop m1 (by rw [m2]; exact k2)), ?_⟩
        have hvv := (hv12.trans hv3).trans hv4
        have hvD : Evo e w1 e3 _ := (hv2.trans hv3).trans hv4
        have ha := after_sound (F := Rr rd) (n := n) (P := P) (a := { a with defers := mark ++ a.defers }) k3 (B := B1) ⟨hH4, fun n => (hS.tm n).evo hvv, hS.size, hD1.evo hvD.toEvo0, hS.cx.evo hvv.toEvo0, Nat.le_trans hB1 hvD.size⟩ hvv hQ
        split
        · rename_i hp; exact ha.1 hp
        · rename_i c hp; exact ha.2 c hp
    cases hcx0 : cx with
    | none =>
      have hrd : rd = none := by
        have := hS.cx
        rw [hcx0] at this
        cases rd with
        | none => rfl
        | some l => exact this.elim
      subst hrd
      have hnh : ¬ e.hits w.heap.size := fun ⟨b, hb, _⟩ => absurd (hS.heap.lt b _ hb) (Nat.lt_irrefl _)
      refine key (w.alloc (.deferred (some []))) _ _ _ (w.heap.size + 1) (run_enterLoop_outer fn a.tmps ps x y) (by simp) (Evo.beside e w _) (hS.heap.beside _) ⟨rfl, rfl, rfl, rfl, rfl, rfl⟩ ?_ (by simp)
      rw [hcx0]
      exact .mark _ _ _ _ hlo (Nat.lt_succ_self _) (heap_alloc_new w _) hnh ((hS.defs.evo (Evo.beside e w _).toEvo0).more hS.bd)
    | some b0 =>
      obtain ⟨L0, hL0⟩ := hcx b0 hcx0
      have hc0 := hS.cx
      rw [hcx0] at hc0
      cases hrd : rd with
      | none => rw [hrd] at hc0; exact hc0.elim
      | some l =>
        rw [hrd] at hc0
        obtain ⟨_, r0, m1, _⟩ := getLoop_of hS.heap hL0 hc0
        subst hrd
        refine key w _ _ _ B (run_enterLoop_in m1 fn a.tmps ps x y) rfl (Evo.refl e w) hS.heap ⟨rfl, rfl, rfl, rfl, rfl, rfl⟩ ?_ hS.bd
        rw [hcx0]
        exact hS.defs
  | _ =>
    intro ac hc
    simp [compCode] at hc

end
end Go.Proofs.Ytooaiddfokbffaa.E
