/- Texts of the proof, one behind the other. Conditions: none. -/
import Derived.Test.YtooaiddfokbffaaA6
import Derived.SizedLaws
import Derived.Carry
import Derived.WalkKit
import Derived.ProofKit
import Derived.OpenShut
import Derived.ShutString
import Derived.ChangeOld
import Derived.Below
/- The free variables of a term, and whether a name stands in it. Conditions: none. -/
set_option linter.unusedVariables false
set_option linter.unusedSimpArgs false
namespace Go.Proofs.Ytooaiddfokbffaa.E
open Go Go.Proofs
attribute [local go_sem] s_seq s_ops s_draw s_block s_skip s_ret s_exit i_nil i_cons i_run i_runG s_condQ c_true c_false aop ev_t ev_c updO_at updO_no upd_at t_normal t_ret t_exit b_normal b_ret b_exit a_some ac_v ac_agg ac_ptr ac_slc ac_ro ac_rop ac_fn new_next set_next argTm_zero argTm_succ argTm_nil ab_bool ab_uv beq_self_eq_true Option.some_beq_some Bool.not_not beq_iff_eq decide_true decide_false Bool.not_true Bool.not_false afld aload astore apack alen_str alen_ro alen_slc alen_nil new_get set_get ite_true ite_false Option.map_some Option.bind_some ibin isShift Nat.add_zero Nat.zero_add List.length_cons List.length_nil List.drop_zero List.drop_succ_cons List.take_succ_cons List.take_zero if_true if_false setL List.set_cons_zero List.set_cons_succ List.all_cons List.all_nil one_int one_bool one_str one_nil one_ptr one_slc one_ro one_rop one_fn Bool.and_self Bool.and_true true_and and_true and_self Bool.false_eq_true post_ret post_normal resAll resOne packR Option.some.injEq exists_eq_left' List.map_cons List.map_nil List.nil_append List.append_nil List.cons_append d_nil d_cons k_nil k_cons g_op g_same g_new avBlock forall_eq' List.getElem?_cons_succ List.getElem?_cons_zero List.getElem?_nil okind gOk bne false_imp_iff forall_const imp_self implies_true true_imp_iff i_callG

/-- The greater one. -/
def mx (m q : Int) : Int := if q > m then q else m
theorem mx_pos {m q : Int} (h : q > m) : mx m q = q := if_pos h
theorem mx_neg {m q : Int} (h : ¬ q > m) : mx m q = m := if_neg h
theorem mx_spec (m q : Int) : (q > m ∧ mx m q = q) ∨ (q ≤ m ∧ mx m q = m) := by
  rcases Int.lt_or_le m q with h | h
  · exact .inl ⟨h, mx_pos h⟩
  · exact .inr ⟨h, mx_neg (by omega)⟩
theorem mx_assoc (a b c : Int) : mx (mx a b) c = mx a (mx b c) := by
  rcases mx_spec a b with ⟨h1, h2⟩ | ⟨h1, h2⟩ <;> rcases mx_spec b c with ⟨h3, h4⟩ | ⟨h3, h4⟩ <;> rw [h2, h4] <;>
  rcases mx_spec a c with ⟨h5, h6⟩ | ⟨h5, h6⟩ <;> rcases mx_spec a b with ⟨h7, h8⟩ | ⟨h7, h8⟩ <;> rcases mx_spec b c with ⟨h9, h10⟩ | ⟨h9, h10⟩ <;> omega

mutual
def freeT (deep : Int) : Tm → Int
  | .mk f n _ _ _ ks => if f = 1 then (if n < deep then 0 else n - deep + 1) else freeK f deep 0 0 ks
def freeK (f deep : Int) (i : Nat) (m : Int) : List Tm → Int
  | [] => m
  | k :: r => freeK f deep (i + 1) (mx m (freeT (underF f i deep) k)) r
end

/-- A variable's index, and that it has no kids. -/
def Vok (t : Tm) : Prop := t.kids.length ≤ 4611686018427387904 ∧ (t.form = 1 → (0 ≤ t.n ∧ t.n ≤ 1073741824) ∧ t.kids = [])

theorem freeT_bound : ∀ t, Tm.All Vok t → ∀ deep, 0 ≤ deep → 0 ≤ freeT deep t ∧ freeT deep t ≤ 1073741825 := by
  refine Tm.rule fun f n hd s lv ks ih ha deep h0 => ?_
  simp only [Tm.All, Vok, Tm.form, Tm.n, Tm.kids] at ha
  obtain ⟨⟨a1, a2⟩, a5⟩ := ha
  simp only [freeT]
  by_cases hf : f = 1
  · obtain ⟨⟨q1, q2⟩, _⟩ := a2 hf
    rw [if_pos hf]
    split <;> omega
  rw [if_neg hf]
  have key : ∀ ks', (∀ k ∈ ks', k ∈ ks) → ∀ (i : Nat) m, 0 ≤ m → m ≤ 1073741825 → 0 ≤ freeK f deep i m ks' ∧ freeK f deep i m ks' ≤ 1073741825 := by
    intro ks'
    induction ks' with
    | nil => intro _ i m h1 h2; exact ⟨h1, h2⟩
    | cons k r ih' =>
      intro hm i m h1 h2
      have hk := hm k (List.mem_cons_self ..)
      have := underF_bound f i deep
      have := ih k hk (a5.mem k hk) (underF f i deep) (by omega)
      simp only [freeK]
      rcases mx_spec m (freeT (underF f i deep) k) with ⟨_, h⟩ | ⟨_, h⟩ <;> rw [h] <;> exact ih' (fun k hk => hm k (List.mem_cons_of_mem _ hk)) (i + 1) _ (by omega) (by omega)
  exact key ks (fun _ h => h) 0 0 (by omega) (by omega)

def isFree (t : Tm) (deep : Int) (c : List AV) : Bool × List AV :=
  (false, if t.form = 1 then (match c with | [.v (.int .i64 m)] => [aint (mx m (t.n - deep + 1))] | c => c) else c)

theorem isFree_one {t : Tm} {deep m : Int} (h : t.form = 1) : isFree t deep [aint m] = (false, [aint (mx m (t.n - deep + 1))]) := by
  unfold isFree; rw [if_pos h]
theorem isFree_no {t : Tm} {deep : Int} {c : List AV} (h : ¬ t.form = 1) : isFree t deep c = (false, c) := by
  unfold isFree; rw [if_neg h]

theorem freeK_mx (f deep : Int) : ∀ (ks : List Tm) (i : Nat) (m m' : Int), freeK f deep i (mx m m') ks = mx m (freeK f deep i m' ks)
  | [], i, m, m' => rfl
  | k :: r, i, m, m' => by
    simp only [freeK]
    rw [mx_assoc, freeK_mx f deep r]

theorem any_free : ∀ t, Tm.All Vok t → ∀ deep m, 0 ≤ m → anyT isFree deep [aint m] t = (false, [aint (mx m (freeT deep t))]) := by
  refine Tm.rule fun f n hd s lv ks ih ha deep m h0 => ?_
  simp only [Tm.All, Vok, Tm.form, Tm.n, Tm.kids] at ha
  obtain ⟨⟨a1, a2⟩, a5⟩ := ha
  rw [anyT, freeT]
  by_cases hf : f = 1
  · obtain ⟨_, q⟩ := a2 hf
    subst q
    rw [isFree_one (by exact hf), if_pos hf]
    simp only [Bool.false_eq_true, if_false, anyK, Tm.n]
    by_cases h1 : n < deep
    · rw [if_pos h1, mx_neg (by omega), mx_neg (by omega)]
    · rw [if_neg h1]
  · rw [isFree_no (by exact hf), if_neg hf]
    simp only [Bool.false_eq_true, if_false]
    have key : ∀ ks', (∀ k ∈ ks', k ∈ ks) → ∀ (i : Nat) m, 0 ≤ m → anyK isFree f i deep [aint m] ks' = (false, [aint (freeK f deep i m ks')]) := by
      intro ks'
      induction ks' with
      | nil => intro _ i m h1; rfl
      | cons k r ih' =>
        intro hm i m h1
        have hk := hm k (List.mem_cons_self ..)
        rw [anyK, freeK, ih k hk (a5.mem k hk) _ m h1]
        simp only [Bool.false_eq_true, if_false]
        exact ih' (fun k hk => hm k (List.mem_cons_of_mem _ hk)) (i + 1) _ (by rcases mx_spec m (freeT (underF f i deep) k) with ⟨_, h⟩ | ⟨_, h⟩ <;> omega)
    rw [key ks (fun _ h => h) 0 m h0]
    congr 3
    rw [← freeK_mx, mx_neg (by omega)]

set_option maxRecDepth 100000 in
theorem isFree_ok (b : Nat) (t : Tm) (cells : List AV) (deep m : Int) (G : AHeap) (ht : Vok t) (hT : TmR t cells) (hd0 : 0 ≤ deep) (hd1 : deep ≤ 4611686018427387904) (hg : G.get b = some (.cells [aint m])) (hb : b < G.next) :
    SCall Try.prog 139 [.agg cells, aint deep, .ptr b 0] G fun x H' => x = abl (isFree t deep [aint m]).1 ∧ H' = G.set b (.cells (isFree t deep [aint m]).2) := by
  obtain ⟨lx, kx, ls, cs, rfl, hl1, hl2, hk1, hk2⟩ := hT.six
  have hne : ¬ b = G.next := by omega
  have hne' : ¬ G.next = b := by omega
  have hE0 : ∀ o o', Ext (G.set b o') ((G.new o).set b o') := fun o o' => (Ext.selfE hg ((Ext.refl G).new o)).put
  refine SCall.valAt b _ hb ?_ (SCall.intro mixed cf139 ?_)
  · intro x hx
    by_cases hf : t.form = 1
    · rw [isFree_one hf] at hx; simp at hx; subst hx; exact .v _
    · rw [isFree_no hf] at hx; simp at hx; subst hx; exact .v _
  by_cases hf : t.form = 1
  · have hn := (ht.2 hf).1
    have w1 : IntKind.i64.wrap (t.n - deep) = t.n - deep := i64_ok _ (by omega)
    have w2 : IntKind.i64.wrap (t.n - deep + 1) = t.n - deep + 1 := i64_ok _ (by omega)
    have hfb : (t.form == 1) = true := by rw [hf]; rfl
    simp -implicitDefEqProofs only [c139, go_sem, Nat.reduceEqDiff, Nat.reduceAdd, Nat.reduceLeDiff, ↓reduceIte, reduceCtorEq, Int.reduceBEq, Int.reduceBNe, Int.reduceLT, Int.reduceLE, Int.reduceGT, Int.reduceGE, Int.reduceNeg, Int.reduceAdd, Int.reduceSub, Nat.reduceMul, Nat.reduceLT, Int.reduceToNat, hl1.one, hl1.cells, hk1.one, hk1.cells, hfb, hne, hne', hg, w1, w2, amm]
    rw [isFree_one hf]
    exact ⟨rfl, hE0 _ _⟩
  · simp -implicitDefEqProofs only [c139, go_sem, Nat.reduceEqDiff, Nat.reduceAdd, Nat.reduceLeDiff, ↓reduceIte, reduceCtorEq, Int.reduceBEq, Int.reduceBNe, Int.reduceLT, Int.reduceLE, Int.reduceGT, Int.reduceGE, Int.reduceNeg, Int.reduceAdd, Int.reduceSub, Nat.reduceMul, Nat.reduceLT, Int.reduceToNat, hl1.one, hl1.cells, hk1.one, hk1.cells, bne' hf, hne, hne', hg]
    rw [isFree_no hf]
    exact ⟨rfl, Ext.selfE hg ((Ext.refl G).new _)⟩

set_option maxRecDepth 100000 in
theorem rawFree_ok (t : Tm) (ha : Tm.All Vok t) (hh : htT t ≤ 1000000) (cells : List AV) (hT : TmR t cells) (H : AHeap) : SCall Try.prog 92 [.agg cells] H fun x H' => x = aint (freeT 0 t) ∧ H' = H := by
  refine SCall.val (SCall.intro mixed cf92 ?_)
  have hT' := hT
  obtain ⟨lx, kx, ls, cs, rfl, hl1, hl2, hk1, hk2⟩ := hT.six
  have e1 : ¬ H.next = H.next + 1 := by omega
  have e2 : ¬ H.next + 1 = H.next := by omega
  have hfb := freeT_bound t ha 0 (by omega)
  simp -implicitDefEqProofs only [c92, go_sem, Nat.reduceEqDiff, Nat.reduceAdd, Nat.reduceLeDiff, ↓reduceIte, reduceCtorEq, Int.reduceBEq, Int.reduceBNe, Int.reduceLT, Int.reduceLE, Int.reduceGT, Int.reduceGE, Int.reduceNeg, Int.reduceAdd, Int.reduceSub, Nat.reduceMul, Nat.reduceLT, Int.reduceToNat, hl1.one, hl1.cells, hk1.one, hk1.cells, e1, e2]
  refine i_callA (fs := []) (cs := []) (fid := 138) ?_ ?_ (any_ok (Pt := Vok) (isF := isFree) (b := H.next + 1) (Inv := fun c => ∃ m : Int, c = [aint m]) (fun t ht => ht.1) (fun c ⟨m, hm⟩ x hx => by rw [hm] at hx; simp at hx; rw [hx]; exact .v _)
    (fun t deep c ht h1 h2 ⟨m, hm⟩ => by subst hm; by_cases hf : t.form = 1; exact ⟨_, by rw [isFree_one hf]⟩; exact ⟨_, by rw [isFree_no hf]⟩)
    (fun t cells deep c G ht hT h1 h2 ⟨m, hm⟩ hg hb => by subst hm; exact isFree_ok _ t cells deep m G ht hT h1 h2 hg hb) t ha _ hT' 0 [aint 0] (by omega) (by omega) ⟨0, rfl⟩ _ (by simp -implicitDefEqProofs only [go_sem, Nat.reduceEqDiff, Nat.reduceAdd, Nat.reduceLeDiff, ↓reduceIte, reduceCtorEq, Int.reduceBEq, Int.reduceBNe, Int.reduceLT, Int.reduceLE, Int.reduceGT, Int.reduceGE, Int.reduceNeg, Int.reduceAdd, Int.reduceSub, Nat.reduceMul, Nat.reduceLT, Int.reduceToNat]) (by rw [set_next, new_next, new_next]; omega)) ?_
  · rfl
  · simp -implicitDefEqProofs only [go_sem, Nat.reduceEqDiff, Nat.reduceAdd, Nat.reduceLeDiff, ↓reduceIte, reduceCtorEq, Int.reduceBEq, Int.reduceBNe, Int.reduceLT, Int.reduceLE, Int.reduceGT, Int.reduceGE, Int.reduceNeg, Int.reduceAdd, Int.reduceSub, Nat.reduceMul, Nat.reduceLT, Int.reduceToNat]
  rintro x H3 ⟨rfl, rfl⟩
  rw [any_free t ha 0 0 (Int.le_refl _)]
  simp -implicitDefEqProofs only [go_sem, Nat.reduceEqDiff, Nat.reduceAdd, Nat.reduceLeDiff, ↓reduceIte, reduceCtorEq, Int.reduceBEq, Int.reduceBNe, Int.reduceLT, Int.reduceLE, Int.reduceGT, Int.reduceGE, Int.reduceNeg, Int.reduceAdd, Int.reduceSub, Nat.reduceMul, Nat.reduceLT, Int.reduceToNat]
  refine ⟨?_, ((((Ext.refl H).new _).new _).set (by omega) _).set (by omega) _⟩
  rcases mx_spec 0 (freeT 0 t) with ⟨_, h⟩ | ⟨_, h⟩
  · rw [h]
  · rw [h, show freeT 0 t = 0 by omega]

theorem form_vok (r : Lv → Bool) : ∀ t, Tm.All TmB t → allF (formF r) t = true → Tm.All Vok t := by
  refine Tm.rule fun f n hd s lv ks ih hb h => ?_
  simp only [Tm.All, TmB, Tm.kids] at hb
  simp only [allF, Bool.and_eq_true] at h
  obtain ⟨h1, h2⟩ := h
  simp only [Tm.All, Vok, Tm.form, Tm.n, Tm.kids]
  refine ⟨⟨by omega, fun hf => ?_⟩, ?_⟩
  · subst hf
    simp only [formF, Tm.form, Tm.kids, Tm.n] at h1
    split at h1
    · cases h1
    rename_i hk
    have hk0 : ks.length = 0 := by
      have : kidsF 1 = 0 := rfl
      omega
    rw [if_pos (.inl trivial)] at h1
    obtain ⟨h3, h4⟩ := Bool.and_eq_true_iff.1 h1
    exact ⟨⟨of_decide_eq_true h3, of_decide_eq_true h4⟩, List.length_eq_zero_iff.1 hk0⟩
  · have key : ∀ ks', (∀ k ∈ ks', k ∈ ks) → allK (formF r) ks' = true → Tm.AllL Vok ks' := by
      intro ks'
      induction ks' with
      | nil => intro _ _; trivial
      | cons k r' ih' =>
        intro hm h
        simp only [allK, Bool.and_eq_true] at h
        have hk := hm k (List.mem_cons_self ..)
        exact ⟨ih k hk (hb.2.mem k hk) h.1, ih' (fun k hk => hm k (List.mem_cons_of_mem _ hk)) h.2⟩
    exact key ks (fun _ h => h) h2

theorem check_form {r : Lv → Bool} {t : Tm} (h : checkF r t = 0) : (fitT 0 1 t).1 = true ∧ allF (formF r) t = true := by
  unfold checkF at h
  split at h
  · cases h
  · rename_i h1
    split at h
    · cases h
    · rename_i h2
      exact ⟨by simpa using h1, by simpa using h2⟩

def freeF (r : Lv → Bool) (t : Tm) : Int := if checkF r t = 0 then freeT 0 t else 0

set_option maxRecDepth 100000 in
theorem free_ok (r : Lv → Bool) (t : Tm) (hall : Tm.All (Fine r) t) (hb : Tm.All TmB t) (hh : htT t ≤ 1000000) (cells : List AV) (hT : TmR t cells) (H : AHeap) : SCall Try.prog 39 [.agg cells] H fun x H' => x = aint (freeF r t) ∧ H' = H := by
  refine SCall.val (SCall.intro mixed cf39 ?_)
  have hT' := hT
  obtain ⟨lx, kx, ls, cs, rfl, hl1, hl2, hk1, hk2⟩ := hT.six
  simp -implicitDefEqProofs only [c39, go_sem, Nat.reduceEqDiff, Nat.reduceAdd, Nat.reduceLeDiff, ↓reduceIte, reduceCtorEq, Int.reduceBEq, Int.reduceBNe, Int.reduceLT, Int.reduceLE, Int.reduceGT, Int.reduceGE, Int.reduceNeg, Int.reduceAdd, Int.reduceSub, Nat.reduceMul, Nat.reduceLT, Int.reduceToNat, hl1.one, hl1.cells, hk1.one, hk1.cells]
  refine i_callA (fs := []) (cs := []) ?_ ?_ (check_ok r t hall _ hT' _) ?_
  · rfl
  · simp -implicitDefEqProofs only [go_sem, Nat.reduceEqDiff, Nat.reduceAdd, Nat.reduceLeDiff, ↓reduceIte, reduceCtorEq, Int.reduceBEq, Int.reduceBNe, Int.reduceLT, Int.reduceLE, Int.reduceGT, Int.reduceGE, Int.reduceNeg, Int.reduceAdd, Int.reduceSub, Nat.reduceMul, Nat.reduceLT, Int.reduceToNat]
  rintro x H3 ⟨rfl, rfl⟩
  by_cases hc : checkF r t = 0
  · rw [hc]
    simp -implicitDefEqProofs only [go_sem, Nat.reduceEqDiff, Nat.reduceAdd, Nat.reduceLeDiff, ↓reduceIte, reduceCtorEq, Int.reduceBEq, Int.reduceBNe, Int.reduceLT, Int.reduceLE, Int.reduceGT, Int.reduceGE, Int.reduceNeg, Int.reduceAdd, Int.reduceSub, Nat.reduceMul, Nat.reduceLT, Int.reduceToNat]
    refine i_callA (fs := []) (cs := []) ?_ ?_ (rawFree_ok t (form_vok r t hb (check_form hc).2) hh _ hT' _) ?_
    · rfl
    · simp -implicitDefEqProofs only [go_sem, Nat.reduceEqDiff, Nat.reduceAdd, Nat.reduceLeDiff, ↓reduceIte, reduceCtorEq, Int.reduceBEq, Int.reduceBNe, Int.reduceLT, Int.reduceLE, Int.reduceGT, Int.reduceGE, Int.reduceNeg, Int.reduceAdd, Int.reduceSub, Nat.reduceMul, Nat.reduceLT, Int.reduceToNat]
    rintro x H3 ⟨rfl, rfl⟩
    simp -implicitDefEqProofs only [go_sem, Nat.reduceEqDiff, Nat.reduceAdd, Nat.reduceLeDiff, ↓reduceIte, reduceCtorEq, Int.reduceBEq, Int.reduceBNe, Int.reduceLT, Int.reduceLE, Int.reduceGT, Int.reduceGE, Int.reduceNeg, Int.reduceAdd, Int.reduceSub, Nat.reduceMul, Nat.reduceLT, Int.reduceToNat]
    exact ⟨by simp [freeF, hc], (Ext.refl H).new _⟩
  · simp -implicitDefEqProofs only [go_sem, Nat.reduceEqDiff, Nat.reduceAdd, Nat.reduceLeDiff, ↓reduceIte, reduceCtorEq, Int.reduceBEq, Int.reduceBNe, Int.reduceLT, Int.reduceLE, Int.reduceGT, Int.reduceGE, Int.reduceNeg, Int.reduceAdd, Int.reduceSub, Nat.reduceMul, Nat.reduceLT, Int.reduceToNat, bne' hc]
    exact ⟨by simp [freeF, hc], (Ext.refl H).new _⟩

set_option maxRecDepth 100000 in
theorem free2T_ok : ∀ t, Tm.All Vok t → ∀ (cells : List AV), TmR t cells → ∀ (deep : Int), 0 ≤ deep → deep + htT t ≤ 4611686018427387904 → ∀ (H : AHeap),
    SCall Try.prog 93 [.agg cells, aint deep] H fun x H' => x = aint (freeT deep t) ∧ H' = H := by
  refine Tm.rule fun f n hid s lv ks ih ha cells hT deep hd0 hd1 H => ?_
  have hbd := freeT_bound _ ha deep hd0
  obtain ⟨lx, kx, ls, cs, rfl, hl1, hl2, hk1, hk2⟩ := hT.six
  simp only [Tm.All, Vok, Tm.form, Tm.n, Tm.hid, Tm.name, Tm.lv, Tm.kids, htT] at *
  obtain ⟨⟨a1, a2⟩, a5⟩ := ha
  refine SCall.val (SCall.intro mixed cf93 ?_)
  by_cases hf : f = 1
  · subst hf
    have hn := (a2 rfl).1
    have w1 : IntKind.i64.wrap (n - deep) = n - deep := i64_ok _ (by omega)
    have w2 : IntKind.i64.wrap (n - deep + 1) = n - deep + 1 := i64_ok _ (by omega)
    by_cases h1 : n < deep
    · simp -implicitDefEqProofs only [c93, go_sem, Nat.reduceEqDiff, Nat.reduceAdd, Nat.reduceLeDiff, ↓reduceIte, reduceCtorEq, Int.reduceBEq, Int.reduceBNe, Int.reduceLT, Int.reduceLE, Int.reduceGT, Int.reduceGE, Int.reduceNeg, Int.reduceAdd, Int.reduceSub, Nat.reduceMul, Nat.reduceLT, Int.reduceToNat, hl1.one, hl1.cells, hk1.one, hk1.cells, h1]
      exact ⟨by simp [freeT, h1], (Ext.refl H).new _⟩
    · simp -implicitDefEqProofs only [c93, go_sem, Nat.reduceEqDiff, Nat.reduceAdd, Nat.reduceLeDiff, ↓reduceIte, reduceCtorEq, Int.reduceBEq, Int.reduceBNe, Int.reduceLT, Int.reduceLE, Int.reduceGT, Int.reduceGE, Int.reduceNeg, Int.reduceAdd, Int.reduceSub, Nat.reduceMul, Nat.reduceLT, Int.reduceToNat, hl1.one, hl1.cells, hk1.one, hk1.cells, h1, w1, w2]
      exact ⟨by simp [freeT, h1], (Ext.refl H).new _⟩
  simp only [freeT, if_neg hf] at hbd ⊢
  simp -implicitDefEqProofs only [c93, go_sem, Nat.reduceEqDiff, Nat.reduceAdd, Nat.reduceLeDiff, ↓reduceIte, reduceCtorEq, Int.reduceBEq, Int.reduceBNe, Int.reduceLT, Int.reduceLE, Int.reduceGT, Int.reduceGE, Int.reduceNeg, Int.reduceAdd, Int.reduceSub, Nat.reduceMul, Nat.reduceLT, Int.reduceToNat, hl1.one, hl1.cells, hk1.one, hk1.cells, bne' hf]
  have hc0 : (H.new (.cells [aint f, aint n, abl hid, .v (.string s), lx, kx])).get H.next = some (.cells [aint f, aint n, abl hid, .v (.string s), lx, kx]) := by rw [new_get, if_pos rfl]
  refine swp_range ks.length (fun i st => st.tm 1 = aint deep ∧ st.tm 2 = .ptr H.next 0 ∧ st.tm 6 = aint i ∧ Ext H st.heap ∧ st.heap.get H.next = some (.cells [aint f, aint n, abl hid, .v (.string s), lx, kx]) ∧
    ∃ m, st.tm 5 = aint m ∧ freeK f deep 0 0 ks = freeK f deep i m (ks.drop i)) ?_ ?_ ?_
  · exact ⟨rfl, rfl, rfl, (Ext.refl H).new _, hc0, 0, rfl, by simp⟩
  · rintro i ⟨tm, H2⟩ hi ⟨t1, t2, t6, hE, hg, m, t5, hr⟩
    simp only at t1 t2 t5 t6 hE hg
    have hltI : (i : Int) < (ks.length : Int) := by omega
    have hix := hk1.aix 6 hi
    obtain ⟨kc, hkc, hle, hld⟩ := hk2.load (List.getElem?_eq_getElem hi)
    have hdrop : ks.drop i = ks[i] :: ks.drop (i + 1) := List.drop_eq_getElem_cons hi
    rw [hdrop, freeK] at hr
    have hkm := List.getElem_mem hi
    have hub := underF_bound f i deep
    have hh := htK_mem hkm
    have w3 : IntKind.i64.wrap ((i : Int) + 1) = (i : Int) + 1 := i64_ok _ (by omega)
    have w4 : IntKind.i64.wrap (deep + 1) = deep + 1 := i64_ok _ (by omega)
    by_cases hu : (i : Int) = 1
    · have hib : ((i : Int) == 1) = true := by rw [hu]; rfl
      simp -implicitDefEqProofs only [go_sem, Nat.reduceEqDiff, Nat.reduceAdd, Nat.reduceLeDiff, ↓reduceIte, reduceCtorEq, Int.reduceBEq, Int.reduceBNe, Int.reduceLT, Int.reduceLE, Int.reduceGT, Int.reduceGE, Int.reduceNeg, Int.reduceAdd, Int.reduceSub, Nat.reduceMul, Nat.reduceLT, Int.reduceToNat, t1, t2, t5, t6, hg, fun H => hk1.alen H, hltI, hib]
      refine i_callA (fs := []) (cs := []) (fid := 127) ?_ ?_ (binds2_ok f _) ?_
      · rfl
      · simp -implicitDefEqProofs only [go_sem, Nat.reduceEqDiff, Nat.reduceAdd, Nat.reduceLeDiff, ↓reduceIte, reduceCtorEq, Int.reduceBEq, Int.reduceBNe, Int.reduceLT, Int.reduceLE, Int.reduceGT, Int.reduceGE, Int.reduceNeg, Int.reduceAdd, Int.reduceSub, Nat.reduceMul, Nat.reduceLT, Int.reduceToNat]
      rintro x H3 ⟨rfl, rfl⟩
      cases hbf : bindsF f with
      | true =>
        have hun : underF f i deep = deep + 1 := by simp [underF, hu, hbf]
        rw [hun] at hr
        simp -implicitDefEqProofs only [go_sem, Nat.reduceEqDiff, Nat.reduceAdd, Nat.reduceLeDiff, ↓reduceIte, reduceCtorEq, Int.reduceBEq, Int.reduceBNe, Int.reduceLT, Int.reduceLE, Int.reduceGT, Int.reduceGE, Int.reduceNeg, Int.reduceAdd, Int.reduceSub, Nat.reduceMul, Nat.reduceLT, Int.reduceToNat, t1, t2, t5, t6, hg, hix, hle, hld, w4]
        refine i_callA (fs := []) (cs := []) (fid := 93) ?_ ?_ (ih ks[i] hkm (a5.mem _ hkm) _ hkc (deep + 1) (by omega) (by omega) _) ?_
        · rfl
        · simp -implicitDefEqProofs only [go_sem, Nat.reduceEqDiff, Nat.reduceAdd, Nat.reduceLeDiff, ↓reduceIte, reduceCtorEq, Int.reduceBEq, Int.reduceBNe, Int.reduceLT, Int.reduceLE, Int.reduceGT, Int.reduceGE, Int.reduceNeg, Int.reduceAdd, Int.reduceSub, Nat.reduceMul, Nat.reduceLT, Int.reduceToNat]
        rintro x H3 ⟨rfl, rfl⟩
        by_cases hgt : freeT (deep + 1) ks[i] > m
        · rw [mx_pos hgt] at hr
          simp -implicitDefEqProofs only [go_sem, Nat.reduceEqDiff, Nat.reduceAdd, Nat.reduceLeDiff, ↓reduceIte, reduceCtorEq, Int.reduceBEq, Int.reduceBNe, Int.reduceLT, Int.reduceLE, Int.reduceGT, Int.reduceGE, Int.reduceNeg, Int.reduceAdd, Int.reduceSub, Nat.reduceMul, Nat.reduceLT, Int.reduceToNat, t1, t2, t5, t6, hgt, w3]
          exact ⟨by simp, hE, hg, _, rfl, hr⟩
        · rw [mx_neg hgt] at hr
          simp -implicitDefEqProofs only [go_sem, Nat.reduceEqDiff, Nat.reduceAdd, Nat.reduceLeDiff, ↓reduceIte, reduceCtorEq, Int.reduceBEq, Int.reduceBNe, Int.reduceLT, Int.reduceLE, Int.reduceGT, Int.reduceGE, Int.reduceNeg, Int.reduceAdd, Int.reduceSub, Nat.reduceMul, Nat.reduceLT, Int.reduceToNat, t1, t2, t5, t6, hgt, w3]
          exact ⟨by simp, hE, hg, _, rfl, hr⟩
      | false =>
        have hun : underF f i deep = deep := by simp [underF, hbf]
        rw [hun] at hr
        simp -implicitDefEqProofs only [go_sem, Nat.reduceEqDiff, Nat.reduceAdd, Nat.reduceLeDiff, ↓reduceIte, reduceCtorEq, Int.reduceBEq, Int.reduceBNe, Int.reduceLT, Int.reduceLE, Int.reduceGT, Int.reduceGE, Int.reduceNeg, Int.reduceAdd, Int.reduceSub, Nat.reduceMul, Nat.reduceLT, Int.reduceToNat, t1, t2, t5, t6, hg, hix, hle, hld, w4]
        refine i_callA (fs := []) (cs := []) (fid := 93) ?_ ?_ (ih ks[i] hkm (a5.mem _ hkm) _ hkc deep (by omega) (by omega) _) ?_
        · rfl
        · simp -implicitDefEqProofs only [go_sem, Nat.reduceEqDiff, Nat.reduceAdd, Nat.reduceLeDiff, ↓reduceIte, reduceCtorEq, Int.reduceBEq, Int.reduceBNe, Int.reduceLT, Int.reduceLE, Int.reduceGT, Int.reduceGE, Int.reduceNeg, Int.reduceAdd, Int.reduceSub, Nat.reduceMul, Nat.reduceLT, Int.reduceToNat]
        rintro x H3 ⟨rfl, rfl⟩
        by_cases hgt : freeT deep ks[i] > m
        · rw [mx_pos hgt] at hr
          simp -implicitDefEqProofs only [go_sem, Nat.reduceEqDiff, Nat.reduceAdd, Nat.reduceLeDiff, ↓reduceIte, reduceCtorEq, Int.reduceBEq, Int.reduceBNe, Int.reduceLT, Int.reduceLE, Int.reduceGT, Int.reduceGE, Int.reduceNeg, Int.reduceAdd, Int.reduceSub, Nat.reduceMul, Nat.reduceLT, Int.reduceToNat, t1, t2, t5, t6, hgt, w3]
          exact ⟨by simp, hE, hg, _, rfl, hr⟩
        · rw [mx_neg hgt] at hr
          simp -implicitDefEqProofs only [go_sem, Nat.reduceEqDiff, Nat.reduceAdd, Nat.reduceLeDiff, ↓reduceIte, reduceCtorEq, Int.reduceBEq, Int.reduceBNe, Int.reduceLT, Int.reduceLE, Int.reduceGT, Int.reduceGE, Int.reduceNeg, Int.reduceAdd, Int.reduceSub, Nat.reduceMul, Nat.reduceLT, Int.reduceToNat, t1, t2, t5, t6, hgt, w3]
          exact ⟨by simp, hE, hg, _, rfl, hr⟩
    · have hun : underF f i deep = deep := by simp [underF, hu]
      rw [hun] at hr
      simp -implicitDefEqProofs only [go_sem, Nat.reduceEqDiff, Nat.reduceAdd, Nat.reduceLeDiff, ↓reduceIte, reduceCtorEq, Int.reduceBEq, Int.reduceBNe, Int.reduceLT, Int.reduceLE, Int.reduceGT, Int.reduceGE, Int.reduceNeg, Int.reduceAdd, Int.reduceSub, Nat.reduceMul, Nat.reduceLT, Int.reduceToNat, t1, t2, t5, t6, hg, fun H => hk1.alen H, hltI, bne' hu, hix, hle, hld]
      refine i_callA (fs := []) (cs := []) (fid := 93) ?_ ?_ (ih ks[i] hkm (a5.mem _ hkm) _ hkc deep (by omega) (by omega) _) ?_
      · rfl
      · simp -implicitDefEqProofs only [go_sem, Nat.reduceEqDiff, Nat.reduceAdd, Nat.reduceLeDiff, ↓reduceIte, reduceCtorEq, Int.reduceBEq, Int.reduceBNe, Int.reduceLT, Int.reduceLE, Int.reduceGT, Int.reduceGE, Int.reduceNeg, Int.reduceAdd, Int.reduceSub, Nat.reduceMul, Nat.reduceLT, Int.reduceToNat]
      rintro x H3 ⟨rfl, rfl⟩
      by_cases hgt : freeT deep ks[i] > m
      · rw [mx_pos hgt] at hr
        simp -implicitDefEqProofs only [go_sem, Nat.reduceEqDiff, Nat.reduceAdd, Nat.reduceLeDiff, ↓reduceIte, reduceCtorEq, Int.reduceBEq, Int.reduceBNe, Int.reduceLT, Int.reduceLE, Int.reduceGT, Int.reduceGE, Int.reduceNeg, Int.reduceAdd, Int.reduceSub, Nat.reduceMul, Nat.reduceLT, Int.reduceToNat, t1, t2, t5, t6, hgt, w3]
        exact ⟨by simp, hE, hg, _, rfl, hr⟩
      · rw [mx_neg hgt] at hr
        simp -implicitDefEqProofs only [go_sem, Nat.reduceEqDiff, Nat.reduceAdd, Nat.reduceLeDiff, ↓reduceIte, reduceCtorEq, Int.reduceBEq, Int.reduceBNe, Int.reduceLT, Int.reduceLE, Int.reduceGT, Int.reduceGE, Int.reduceNeg, Int.reduceAdd, Int.reduceSub, Nat.reduceMul, Nat.reduceLT, Int.reduceToNat, t1, t2, t5, t6, hgt, w3]
        exact ⟨by simp, hE, hg, _, rfl, hr⟩
  · rintro ⟨tm, H2⟩ ⟨t1, t2, t6, hE, hg, m, t5, hr⟩
    simp only at t1 t2 t5 t6 hE hg
    rw [List.drop_length, freeK] at hr
    simp -implicitDefEqProofs only [go_sem, Nat.reduceEqDiff, Nat.reduceAdd, Nat.reduceLeDiff, ↓reduceIte, reduceCtorEq, Int.reduceBEq, Int.reduceBNe, Int.reduceLT, Int.reduceLE, Int.reduceGT, Int.reduceGE, Int.reduceNeg, Int.reduceAdd, Int.reduceSub, Nat.reduceMul, Nat.reduceLT, Int.reduceToNat, t1, t2, t5, t6, hg, fun H => hk1.alen H, Int.lt_irrefl]
    exact ⟨by rw [hr], hE⟩

set_option maxRecDepth 100000 in
theorem free2_ok (r : Lv → Bool) (t : Tm) (hall : Tm.All (Fine2 r) t) (hb : Tm.All TmB t) (hh : htT t ≤ 1000000) (cells : List AV) (hT : TmR t cells) (H : AHeap) : SCall Try.prog 40 [.agg cells] H fun x H' => x = aint (freeF r t) ∧ H' = H := by
  refine SCall.val (SCall.intro mixed cf40 ?_)
  have hT' := hT
  obtain ⟨lx, kx, ls, cs, rfl, hl1, hl2, hk1, hk2⟩ := hT.six
  simp -implicitDefEqProofs only [c40, go_sem, Nat.reduceEqDiff, Nat.reduceAdd, Nat.reduceLeDiff, ↓reduceIte, reduceCtorEq, Int.reduceBEq, Int.reduceBNe, Int.reduceLT, Int.reduceLE, Int.reduceGT, Int.reduceGE, Int.reduceNeg, Int.reduceAdd, Int.reduceSub, Nat.reduceMul, Nat.reduceLT, Int.reduceToNat, hl1.one, hl1.cells, hk1.one, hk1.cells]
  refine i_callA (fs := []) (cs := []) ?_ ?_ (check2_ok r t hall _ hT' _) ?_
  · rfl
  · simp -implicitDefEqProofs only [go_sem, Nat.reduceEqDiff, Nat.reduceAdd, Nat.reduceLeDiff, ↓reduceIte, reduceCtorEq, Int.reduceBEq, Int.reduceBNe, Int.reduceLT, Int.reduceLE, Int.reduceGT, Int.reduceGE, Int.reduceNeg, Int.reduceAdd, Int.reduceSub, Nat.reduceMul, Nat.reduceLT, Int.reduceToNat]
  rintro x H3 ⟨rfl, rfl⟩
  rw [check_same]
  by_cases hc : checkF r t = 0
  · rw [hc]
    simp -implicitDefEqProofs only [go_sem, Nat.reduceEqDiff, Nat.reduceAdd, Nat.reduceLeDiff, ↓reduceIte, reduceCtorEq, Int.reduceBEq, Int.reduceBNe, Int.reduceLT, Int.reduceLE, Int.reduceGT, Int.reduceGE, Int.reduceNeg, Int.reduceAdd, Int.reduceSub, Nat.reduceMul, Nat.reduceLT, Int.reduceToNat]
    refine i_callA (fs := []) (cs := []) ?_ ?_ (free2T_ok t (form_vok r t hb (check_form hc).2) _ hT' 0 (by omega) (by omega) _) ?_
    · rfl
    · simp -implicitDefEqProofs only [go_sem, Nat.reduceEqDiff, Nat.reduceAdd, Nat.reduceLeDiff, ↓reduceIte, reduceCtorEq, Int.reduceBEq, Int.reduceBNe, Int.reduceLT, Int.reduceLE, Int.reduceGT, Int.reduceGE, Int.reduceNeg, Int.reduceAdd, Int.reduceSub, Nat.reduceMul, Nat.reduceLT, Int.reduceToNat]
    rintro x H3 ⟨rfl, rfl⟩
    simp -implicitDefEqProofs only [go_sem, Nat.reduceEqDiff, Nat.reduceAdd, Nat.reduceLeDiff, ↓reduceIte, reduceCtorEq, Int.reduceBEq, Int.reduceBNe, Int.reduceLT, Int.reduceLE, Int.reduceGT, Int.reduceGE, Int.reduceNeg, Int.reduceAdd, Int.reduceSub, Nat.reduceMul, Nat.reduceLT, Int.reduceToNat]
    exact ⟨by simp [freeF, hc], (Ext.refl H).new _⟩
  · simp -implicitDefEqProofs only [go_sem, Nat.reduceEqDiff, Nat.reduceAdd, Nat.reduceLeDiff, ↓reduceIte, reduceCtorEq, Int.reduceBEq, Int.reduceBNe, Int.reduceLT, Int.reduceLE, Int.reduceGT, Int.reduceGE, Int.reduceNeg, Int.reduceAdd, Int.reduceSub, Nat.reduceMul, Nat.reduceLT, Int.reduceToNat, bne' hc]
    exact ⟨by simp [freeF, hc], (Ext.refl H).new _⟩
end Go.Proofs.Ytooaiddfokbffaa.E

/- Whether a constant's name stands in a term. Conditions: none. -/
set_option linter.unusedVariables false
set_option linter.unusedSimpArgs false
namespace Go.Proofs.Ytooaiddfokbffaa.E
open Go Go.Proofs
attribute [local go_sem] s_seq s_ops s_draw s_block s_skip s_ret s_exit i_nil i_cons i_run i_runG s_condQ c_true c_false aop ev_t ev_c updO_at updO_no upd_at t_normal t_ret t_exit b_normal b_ret b_exit a_some ac_v ac_agg ac_ptr ac_slc ac_ro ac_rop ac_fn new_next set_next argTm_zero argTm_succ argTm_nil ab_bool ab_uv beq_self_eq_true Option.some_beq_some Bool.not_not beq_iff_eq decide_true decide_false Bool.not_true Bool.not_false afld aload astore apack alen_str alen_ro alen_slc alen_nil new_get set_get ite_true ite_false Option.map_some Option.bind_some ibin isShift Nat.add_zero Nat.zero_add List.length_cons List.length_nil List.drop_zero List.drop_succ_cons List.take_succ_cons List.take_zero if_true if_false setL List.set_cons_zero List.set_cons_succ List.all_cons List.all_nil one_int one_bool one_str one_nil one_ptr one_slc one_ro one_rop one_fn Bool.and_self Bool.and_true true_and and_true and_self Bool.false_eq_true post_ret post_normal resAll resOne packR Option.some.injEq exists_eq_left' List.map_cons List.map_nil List.nil_append List.append_nil List.cons_append d_nil d_cons k_nil k_cons g_op g_same g_new avBlock forall_eq' List.getElem?_cons_succ List.getElem?_cons_zero List.getElem?_nil okind gOk bne false_imp_iff forall_const imp_self implies_true true_imp_iff i_callG

def sameS (a b : ByteArray) : Bool := a.data.toList == b.data.toList

mutual
def hasT (nm : ByteArray) : Tm → Bool
  | .mk f _ _ s _ ks => if f = 10 ∧ sameS s nm = true then true else hasK nm ks
def hasK (nm : ByteArray) : List Tm → Bool
  | [] => false
  | k :: r => if hasT nm k = true then true else hasK nm r
end

def isHas (nm : ByteArray) (t : Tm) (deep : Int) (c : List AV) : Bool × List AV := (decide (t.form = 10 ∧ sameS t.name nm = true), c)

theorem isHas_yes {nm : ByteArray} {t : Tm} {deep : Int} {c : List AV} (h : t.form = 10 ∧ sameS t.name nm = true) : isHas nm t deep c = (true, c) := by unfold isHas; rw [decide_eq_true h]
theorem isHas_no {nm : ByteArray} {t : Tm} {deep : Int} {c : List AV} (h : ¬ (t.form = 10 ∧ sameS t.name nm = true)) : isHas nm t deep c = (false, c) := by unfold isHas; rw [decide_eq_false h]

theorem any_has (nm : ByteArray) : ∀ t, ∀ deep c, anyT (isHas nm) deep c t = (hasT nm t, c) := by
  refine Tm.rule fun f n hd s lv ks ih deep c => ?_
  rw [anyT, hasT]
  by_cases h : f = 10 ∧ sameS s nm = true
  · rw [isHas_yes (by exact h), if_pos h]; rfl
  · rw [isHas_no (by exact h), if_neg h]
    simp only [Bool.false_eq_true, if_false]
    have key : ∀ ks', (∀ k ∈ ks', k ∈ ks) → ∀ (i : Nat) c, anyK (isHas nm) f i deep c ks' = (hasK nm ks', c) := by
      intro ks'
      induction ks' with
      | nil => intro _ i c; rfl
      | cons k r ih' =>
        intro hm i c
        rw [anyK, hasK, ih k (hm k (List.mem_cons_self ..))]
        cases hasT nm k with
        | true => rfl
        | false => simp only [Bool.false_eq_true, if_false]; exact ih' (fun k hk => hm k (List.mem_cons_of_mem _ hk)) (i + 1) c
    exact key ks (fun _ h => h) 0 _

set_option maxRecDepth 100000 in
theorem isHas_ok (nm : ByteArray) (b : Nat) (t : Tm) (cells : List AV) (deep : Int) (G : AHeap) (hT : TmR t cells) (hg : G.get b = some (.cells [.v (.string nm)])) (hb : b < G.next) :
    SCall Try.prog 140 [.agg cells, aint deep, .ptr b 0] G fun x H' => x = abl (isHas nm t deep [.v (.string nm)]).1 ∧ H' = G.set b (.cells (isHas nm t deep [.v (.string nm)]).2) := by
  obtain ⟨lx, kx, ls, cs, rfl, hl1, hl2, hk1, hk2⟩ := hT.six
  have hne : ¬ b = G.next := by omega
  refine SCall.valAt b _ hb (fun x hx => by simp [isHas] at hx; subst hx; exact .v _) (SCall.intro mixed cf140 ?_)
  have hE : ∀ o, Ext (G.set b (.cells [.v (.string nm)])) (G.new o) := fun o => Ext.selfE hg ((Ext.refl G).new o)
  by_cases hf : t.form = 10
  · have hfb : (t.form == 10) = true := by rw [hf]; rfl
    cases hs : sameS t.name nm with
    | true =>
      have hs' : (t.name.data.toList == nm.data.toList) = true := hs
      simp -implicitDefEqProofs only [c140, go_sem, Nat.reduceEqDiff, Nat.reduceAdd, Nat.reduceLeDiff, ↓reduceIte, reduceCtorEq, Int.reduceBEq, Int.reduceBNe, Int.reduceLT, Int.reduceLE, Int.reduceGT, Int.reduceGE, Int.reduceNeg, Int.reduceAdd, Int.reduceSub, Nat.reduceMul, Nat.reduceLT, Int.reduceToNat, hl1.one, hl1.cells, hk1.one, hk1.cells, hfb, hne, hg, sbin, hs']
      simp only [isHas]
      exact ⟨by rw [decide_eq_true ⟨hf, hs⟩], hE _⟩
    | false =>
      have hs' : (t.name.data.toList == nm.data.toList) = false := hs
      simp -implicitDefEqProofs only [c140, go_sem, Nat.reduceEqDiff, Nat.reduceAdd, Nat.reduceLeDiff, ↓reduceIte, reduceCtorEq, Int.reduceBEq, Int.reduceBNe, Int.reduceLT, Int.reduceLE, Int.reduceGT, Int.reduceGE, Int.reduceNeg, Int.reduceAdd, Int.reduceSub, Nat.reduceMul, Nat.reduceLT, Int.reduceToNat, hl1.one, hl1.cells, hk1.one, hk1.cells, hfb, hne, hg, sbin, hs']
      simp only [isHas]
      exact ⟨by rw [decide_eq_false (fun h => by rw [hs] at h; simp at h)], hE _⟩
  · simp -implicitDefEqProofs only [c140, go_sem, Nat.reduceEqDiff, Nat.reduceAdd, Nat.reduceLeDiff, ↓reduceIte, reduceCtorEq, Int.reduceBEq, Int.reduceBNe, Int.reduceLT, Int.reduceLE, Int.reduceGT, Int.reduceGE, Int.reduceNeg, Int.reduceAdd, Int.reduceSub, Nat.reduceMul, Nat.reduceLT, Int.reduceToNat, hl1.one, hl1.cells, hk1.one, hk1.cells, bne' hf, hne, hg]
    simp only [isHas]
    exact ⟨by rw [decide_eq_false (fun h => hf h.1)], hE _⟩

def Kok (t : Tm) : Prop := t.kids.length ≤ 4611686018427387904

set_option maxRecDepth 100000 in
theorem rawHas_ok (nm : ByteArray) (t : Tm) (ha : Tm.All Kok t) (hh : htT t ≤ 1000000) (cells : List AV) (hT : TmR t cells) (H : AHeap) :
    SCall Try.prog 94 [.agg cells, .v (.string nm)] H fun x H' => x = abl (hasT nm t) ∧ H' = H := by
  refine SCall.val (SCall.intro mixed cf94 ?_)
  have hT' := hT
  obtain ⟨lx, kx, ls, cs, rfl, hl1, hl2, hk1, hk2⟩ := hT.six
  have e1 : ¬ H.next = H.next + 1 := by omega
  have e2 : ¬ H.next + 1 = H.next := by omega
  simp -implicitDefEqProofs only [c94, go_sem, Nat.reduceEqDiff, Nat.reduceAdd, Nat.reduceLeDiff, ↓reduceIte, reduceCtorEq, Int.reduceBEq, Int.reduceBNe, Int.reduceLT, Int.reduceLE, Int.reduceGT, Int.reduceGE, Int.reduceNeg, Int.reduceAdd, Int.reduceSub, Nat.reduceMul, Nat.reduceLT, Int.reduceToNat, hl1.one, hl1.cells, hk1.one, hk1.cells, e1, e2]
  refine i_callA (fs := []) (cs := []) (fid := 138) ?_ ?_ (any_ok (Pt := Kok) (isF := isHas nm) (b := H.next + 1) (Inv := fun c => c = [.v (.string nm)]) (fun t ht => ht) (fun c hc x hx => by rw [hc] at hx; simp at hx; rw [hx]; exact .v _)
    (fun t deep c ht h1 h2 hc => hc)
    (fun t cells deep c G ht hT h1 h2 hc hg hb => by subst hc; exact isHas_ok nm _ t cells deep G hT hg hb) t ha _ hT' 0 _ (by omega) (by omega) rfl _ (by simp -implicitDefEqProofs only [go_sem, Nat.reduceEqDiff, Nat.reduceAdd, Nat.reduceLeDiff, ↓reduceIte, reduceCtorEq, Int.reduceBEq, Int.reduceBNe, Int.reduceLT, Int.reduceLE, Int.reduceGT, Int.reduceGE, Int.reduceNeg, Int.reduceAdd, Int.reduceSub, Nat.reduceMul, Nat.reduceLT, Int.reduceToNat]) (by rw [new_next, new_next]; omega)) ?_
  · rfl
  · simp -implicitDefEqProofs only [go_sem, Nat.reduceEqDiff, Nat.reduceAdd, Nat.reduceLeDiff, ↓reduceIte, reduceCtorEq, Int.reduceBEq, Int.reduceBNe, Int.reduceLT, Int.reduceLE, Int.reduceGT, Int.reduceGE, Int.reduceNeg, Int.reduceAdd, Int.reduceSub, Nat.reduceMul, Nat.reduceLT, Int.reduceToNat]
  rintro x H3 ⟨rfl, rfl⟩
  rw [any_has]
  simp -implicitDefEqProofs only [go_sem, Nat.reduceEqDiff, Nat.reduceAdd, Nat.reduceLeDiff, ↓reduceIte, reduceCtorEq, Int.reduceBEq, Int.reduceBNe, Int.reduceLT, Int.reduceLE, Int.reduceGT, Int.reduceGE, Int.reduceNeg, Int.reduceAdd, Int.reduceSub, Nat.reduceMul, Nat.reduceLT, Int.reduceToNat]
  exact (((Ext.refl H).new _).new _).set (by omega) _

theorem tmb_kok : ∀ t, Tm.All TmB t → Tm.All Kok t := by
  refine Tm.rule fun f n hd s lv ks ih ha => ?_
  simp only [Tm.All, TmB, Kok, Tm.kids] at *
  refine ⟨by omega, ?_⟩
  have key : ∀ ks', (∀ k ∈ ks', k ∈ ks) → Tm.AllL Kok ks' := by
    intro ks'
    induction ks' with
    | nil => intro _; trivial
    | cons k r ih' => intro hm; exact ⟨ih k (hm k (List.mem_cons_self ..)) (ha.2.mem k (hm k (List.mem_cons_self ..))), ih' fun k hk => hm k (List.mem_cons_of_mem _ hk)⟩
  exact key ks fun _ h => h

def hasF (r : Lv → Bool) (nm : ByteArray) (t : Tm) : Bool := if checkF r t = 0 then hasT nm t else false

set_option maxRecDepth 100000 in
theorem has_ok (r : Lv → Bool) (nm : ByteArray) (t : Tm) (hall : Tm.All (Fine r) t) (hb : Tm.All TmB t) (hh : htT t ≤ 1000000) (cells : List AV) (hT : TmR t cells) (H : AHeap) :
    SCall Try.prog 41 [.agg cells, .v (.string nm)] H fun x H' => x = abl (hasF r nm t) ∧ H' = H := by
  refine SCall.val (SCall.intro mixed cf41 ?_)
  have hT' := hT
  obtain ⟨lx, kx, ls, cs, rfl, hl1, hl2, hk1, hk2⟩ := hT.six
  simp -implicitDefEqProofs only [c41, go_sem, Nat.reduceEqDiff, Nat.reduceAdd, Nat.reduceLeDiff, ↓reduceIte, reduceCtorEq, Int.reduceBEq, Int.reduceBNe, Int.reduceLT, Int.reduceLE, Int.reduceGT, Int.reduceGE, Int.reduceNeg, Int.reduceAdd, Int.reduceSub, Nat.reduceMul, Nat.reduceLT, Int.reduceToNat, hl1.one, hl1.cells, hk1.one, hk1.cells]
  refine i_callA (fs := []) (cs := []) ?_ ?_ (check_ok r t hall _ hT' _) ?_
  · rfl
  · simp -implicitDefEqProofs only [go_sem, Nat.reduceEqDiff, Nat.reduceAdd, Nat.reduceLeDiff, ↓reduceIte, reduceCtorEq, Int.reduceBEq, Int.reduceBNe, Int.reduceLT, Int.reduceLE, Int.reduceGT, Int.reduceGE, Int.reduceNeg, Int.reduceAdd, Int.reduceSub, Nat.reduceMul, Nat.reduceLT, Int.reduceToNat]
  rintro x H3 ⟨rfl, rfl⟩
  by_cases hc : checkF r t = 0
  · rw [hc]
    simp -implicitDefEqProofs only [go_sem, Nat.reduceEqDiff, Nat.reduceAdd, Nat.reduceLeDiff, ↓reduceIte, reduceCtorEq, Int.reduceBEq, Int.reduceBNe, Int.reduceLT, Int.reduceLE, Int.reduceGT, Int.reduceGE, Int.reduceNeg, Int.reduceAdd, Int.reduceSub, Nat.reduceMul, Nat.reduceLT, Int.reduceToNat]
    refine i_callA (fs := []) (cs := []) ?_ ?_ (rawHas_ok nm t (tmb_kok t hb) hh _ hT' _) ?_
    · rfl
    · simp -implicitDefEqProofs only [go_sem, Nat.reduceEqDiff, Nat.reduceAdd, Nat.reduceLeDiff, ↓reduceIte, reduceCtorEq, Int.reduceBEq, Int.reduceBNe, Int.reduceLT, Int.reduceLE, Int.reduceGT, Int.reduceGE, Int.reduceNeg, Int.reduceAdd, Int.reduceSub, Nat.reduceMul, Nat.reduceLT, Int.reduceToNat]
    rintro x H3 ⟨rfl, rfl⟩
    simp -implicitDefEqProofs only [go_sem, Nat.reduceEqDiff, Nat.reduceAdd, Nat.reduceLeDiff, ↓reduceIte, reduceCtorEq, Int.reduceBEq, Int.reduceBNe, Int.reduceLT, Int.reduceLE, Int.reduceGT, Int.reduceGE, Int.reduceNeg, Int.reduceAdd, Int.reduceSub, Nat.reduceMul, Nat.reduceLT, Int.reduceToNat]
    exact ⟨by simp [hasF, hc], (Ext.refl H).new _⟩
  · simp -implicitDefEqProofs only [go_sem, Nat.reduceEqDiff, Nat.reduceAdd, Nat.reduceLeDiff, ↓reduceIte, reduceCtorEq, Int.reduceBEq, Int.reduceBNe, Int.reduceLT, Int.reduceLE, Int.reduceGT, Int.reduceGE, Int.reduceNeg, Int.reduceAdd, Int.reduceSub, Nat.reduceMul, Nat.reduceLT, Int.reduceToNat, bne' hc]
    exact ⟨by simp [hasF, hc], (Ext.refl H).new _⟩

set_option maxRecDepth 100000 in
theorem has2T_ok (nm : ByteArray) : ∀ t, Tm.All Kok t → ∀ (cells : List AV), TmR t cells → ∀ (H : AHeap), SCall Try.prog 95 [.agg cells, .v (.string nm)] H fun x H' => x = abl (hasT nm t) ∧ H' = H := by
  refine Tm.rule fun f n hid s lv ks ih ha cells hT H => ?_
  obtain ⟨lx, kx, ls, cs, rfl, hl1, hl2, hk1, hk2⟩ := hT.six
  simp only [Tm.All, Kok, Tm.form, Tm.n, Tm.hid, Tm.name, Tm.lv, Tm.kids] at *
  obtain ⟨a1, a5⟩ := ha
  refine SCall.val (SCall.intro mixed cf95 ?_)
  rw [hasT]
  by_cases h : f = 10 ∧ sameS s nm = true
  · have hfb : (f == 10) = true := by rw [h.1]; rfl
    have hs' : (s.data.toList == nm.data.toList) = true := h.2
    simp -implicitDefEqProofs only [c95, go_sem, Nat.reduceEqDiff, Nat.reduceAdd, Nat.reduceLeDiff, ↓reduceIte, reduceCtorEq, Int.reduceBEq, Int.reduceBNe, Int.reduceLT, Int.reduceLE, Int.reduceGT, Int.reduceGE, Int.reduceNeg, Int.reduceAdd, Int.reduceSub, Nat.reduceMul, Nat.reduceLT, Int.reduceToNat, hl1.one, hl1.cells, hk1.one, hk1.cells, hfb, sbin, hs', h]
    exact (Ext.refl H).new _
  rw [if_neg h]
  -- the test comes to no
  by_cases hf : f = 10
  · have hfb : (f == 10) = true := by rw [hf]; rfl
    have hs' : (s.data.toList == nm.data.toList) = false := by
      cases hq : (s.data.toList == nm.data.toList) with
      | false => rfl
      | true => exact absurd ⟨hf, hq⟩ h
    simp -implicitDefEqProofs only [c95, go_sem, Nat.reduceEqDiff, Nat.reduceAdd, Nat.reduceLeDiff, ↓reduceIte, reduceCtorEq, Int.reduceBEq, Int.reduceBNe, Int.reduceLT, Int.reduceLE, Int.reduceGT, Int.reduceGE, Int.reduceNeg, Int.reduceAdd, Int.reduceSub, Nat.reduceMul, Nat.reduceLT, Int.reduceToNat, hl1.one, hl1.cells, hk1.one, hk1.cells, hfb, sbin, hs']
    refine swp_range ks.length (fun i st => st.tm 1 = .v (.string nm) ∧ st.tm 2 = .ptr H.next 0 ∧ st.tm 5 = aint i ∧ Ext H st.heap ∧ st.heap.get H.next = some (.cells [aint f, aint n, abl hid, .v (.string s), lx, kx]) ∧ hasK nm ks = hasK nm (ks.drop i)) ?_ ?_ ?_
    · exact ⟨rfl, rfl, rfl, (Ext.refl H).new _, by rw [new_get, if_pos rfl], by simp⟩
    · rintro i ⟨tm, H2⟩ hi ⟨t1, t2, t5, hE, hg, hr⟩
      simp only at t1 t2 t5 hE hg
      have hltI : (i : Int) < (ks.length : Int) := by omega
      have hix := hk1.aix 6 hi
      obtain ⟨kc, hkc, hle, hld⟩ := hk2.load (List.getElem?_eq_getElem hi)
      have hdrop : ks.drop i = ks[i] :: ks.drop (i + 1) := List.drop_eq_getElem_cons hi
      rw [hdrop, hasK] at hr
      have hkm := List.getElem_mem hi
      have w3 : IntKind.i64.wrap ((i : Int) + 1) = (i : Int) + 1 := i64_ok _ (by omega)
      simp -implicitDefEqProofs only [go_sem, Nat.reduceEqDiff, Nat.reduceAdd, Nat.reduceLeDiff, ↓reduceIte, reduceCtorEq, Int.reduceBEq, Int.reduceBNe, Int.reduceLT, Int.reduceLE, Int.reduceGT, Int.reduceGE, Int.reduceNeg, Int.reduceAdd, Int.reduceSub, Nat.reduceMul, Nat.reduceLT, Int.reduceToNat, t1, t2, t5, hg, fun H => hk1.alen H, hltI, hix, hle, hld]
      refine i_callA (fs := []) (cs := []) (fid := 95) ?_ ?_ (ih ks[i] hkm (a5.mem _ hkm) _ hkc _) ?_
      · rfl
      · simp -implicitDefEqProofs only [go_sem, Nat.reduceEqDiff, Nat.reduceAdd, Nat.reduceLeDiff, ↓reduceIte, reduceCtorEq, Int.reduceBEq, Int.reduceBNe, Int.reduceLT, Int.reduceLE, Int.reduceGT, Int.reduceGE, Int.reduceNeg, Int.reduceAdd, Int.reduceSub, Nat.reduceMul, Nat.reduceLT, Int.reduceToNat]
      rintro x H3 ⟨rfl, rfl⟩
      cases hq : hasT nm ks[i] with
      | true =>
        rw [hq, if_pos rfl] at hr
        simp -implicitDefEqProofs only [go_sem, Nat.reduceEqDiff, Nat.reduceAdd, Nat.reduceLeDiff, ↓reduceIte, reduceCtorEq, Int.reduceBEq, Int.reduceBNe, Int.reduceLT, Int.reduceLE, Int.reduceGT, Int.reduceGE, Int.reduceNeg, Int.reduceAdd, Int.reduceSub, Nat.reduceMul, Nat.reduceLT, Int.reduceToNat]
        exact ⟨by rw [hr], hE⟩
      | false =>
        rw [hq, if_neg (by simp)] at hr
        simp -implicitDefEqProofs only [go_sem, Nat.reduceEqDiff, Nat.reduceAdd, Nat.reduceLeDiff, ↓reduceIte, reduceCtorEq, Int.reduceBEq, Int.reduceBNe, Int.reduceLT, Int.reduceLE, Int.reduceGT, Int.reduceGE, Int.reduceNeg, Int.reduceAdd, Int.reduceSub, Nat.reduceMul, Nat.reduceLT, Int.reduceToNat, t5, w3]
        exact ⟨t1, t2, by simp, hE, hg, hr⟩
    · rintro ⟨tm, H2⟩ ⟨t1, t2, t5, hE, hg, hr⟩
      simp only at t1 t2 t5 hE hg
      rw [List.drop_length, hasK] at hr
      simp -implicitDefEqProofs only [go_sem, Nat.reduceEqDiff, Nat.reduceAdd, Nat.reduceLeDiff, ↓reduceIte, reduceCtorEq, Int.reduceBEq, Int.reduceBNe, Int.reduceLT, Int.reduceLE, Int.reduceGT, Int.reduceGE, Int.reduceNeg, Int.reduceAdd, Int.reduceSub, Nat.reduceMul, Nat.reduceLT, Int.reduceToNat, t1, t2, t5, hg, fun H => hk1.alen H, Int.lt_irrefl]
      exact ⟨by rw [hr], hE⟩
  · simp -implicitDefEqProofs only [c95, go_sem, Nat.reduceEqDiff, Nat.reduceAdd, Nat.reduceLeDiff, ↓reduceIte, reduceCtorEq, Int.reduceBEq, Int.reduceBNe, Int.reduceLT, Int.reduceLE, Int.reduceGT, Int.reduceGE, Int.reduceNeg, Int.reduceAdd, Int.reduceSub, Nat.reduceMul, Nat.reduceLT, Int.reduceToNat, hl1.one, hl1.cells, hk1.one, hk1.cells, bne' hf]
    refine swp_range ks.length (fun i st => st.tm 1 = .v (.string nm) ∧ st.tm 2 = .ptr H.next 0 ∧ st.tm 5 = aint i ∧ Ext H st.heap ∧ st.heap.get H.next = some (.cells [aint f, aint n, abl hid, .v (.string s), lx, kx]) ∧ hasK nm ks = hasK nm (ks.drop i)) ?_ ?_ ?_
    · exact ⟨rfl, rfl, rfl, (Ext.refl H).new _, by rw [new_get, if_pos rfl], by simp⟩
    · rintro i ⟨tm, H2⟩ hi ⟨t1, t2, t5, hE, hg, hr⟩
      simp only at t1 t2 t5 hE hg
      have hltI : (i : Int) < (ks.length : Int) := by omega
      have hix := hk1.aix 6 hi
      obtain ⟨kc, hkc, hle, hld⟩ := hk2.load (List.getElem?_eq_getElem hi)
      have hdrop : ks.drop i = ks[i] :: ks.drop (i + 1) := List.drop_eq_getElem_cons hi
      rw [hdrop, hasK] at hr
      have hkm := List.getElem_mem hi
      have w3 : IntKind.i64.wrap ((i : Int) + 1) = (i : Int) + 1 := i64_ok _ (by omega)
      simp -implicitDefEqProofs only [go_sem, Nat.reduceEqDiff, Nat.reduceAdd, Nat.reduceLeDiff, ↓reduceIte, reduceCtorEq, Int.reduceBEq, Int.reduceBNe, Int.reduceLT, Int.reduceLE, Int.reduceGT, Int.reduceGE, Int.reduceNeg, Int.reduceAdd, Int.reduceSub, Nat.reduceMul, Nat.reduceLT, Int.reduceToNat, t1, t2, t5, hg, fun H => hk1.alen H, hltI, hix, hle, hld]
      refine i_callA (fs := []) (cs := []) (fid := 95) ?_ ?_ (ih ks[i] hkm (a5.mem _ hkm) _ hkc _) ?_
      · rfl
      · simp -implicitDefEqProofs only [go_sem, Nat.reduceEqDiff, Nat.reduceAdd, Nat.reduceLeDiff, ↓reduceIte, reduceCtorEq, Int.reduceBEq, Int.reduceBNe, Int.reduceLT, Int.reduceLE, Int.reduceGT, Int.reduceGE, Int.reduceNeg, Int.reduceAdd, Int.reduceSub, Nat.reduceMul, Nat.reduceLT, Int.reduceToNat]
      rintro x H3 ⟨rfl, rfl⟩
      cases hq : hasT nm ks[i] with
      | true =>
        rw [hq, if_pos rfl] at hr
        simp -implicitDefEqProofs only [go_sem, Nat.reduceEqDiff, Nat.reduceAdd, Nat.reduceLeDiff, ↓reduceIte, reduceCtorEq, Int.reduceBEq, Int.reduceBNe, Int.reduceLT, Int.reduceLE, Int.reduceGT, Int.reduceGE, Int.reduceNeg, Int.reduceAdd, Int.reduceSub, Nat.reduceMul, Nat.reduceLT, Int.reduceToNat]
        exact ⟨by rw [hr], hE⟩
      | false =>
        rw [hq, if_neg (by simp)] at hr
        simp -implicitDefEqProofs only [go_sem, Nat.reduceEqDiff, Nat.reduceAdd, Nat.reduceLeDiff, ↓reduceIte, reduceCtorEq, Int.reduceBEq, Int.reduceBNe, Int.reduceLT, Int.reduceLE, Int.reduceGT, Int.reduceGE, Int.reduceNeg, Int.reduceAdd, Int.reduceSub, Nat.reduceMul, Nat.reduceLT, Int.reduceToNat, t5, w3]
        exact ⟨t1, t2, by simp, hE, hg, hr⟩
    · rintro ⟨tm, H2⟩ ⟨t1, t2, t5, hE, hg, hr⟩
      simp only at t1 t2 t5 hE hg
      rw [List.drop_length, hasK] at hr
      simp -implicitDefEqProofs only [go_sem, Nat.reduceEqDiff, Nat.reduceAdd, Nat.reduceLeDiff, ↓reduceIte, reduceCtorEq, Int.reduceBEq, Int.reduceBNe, Int.reduceLT, Int.reduceLE, Int.reduceGT, Int.reduceGE, Int.reduceNeg, Int.reduceAdd, Int.reduceSub, Nat.reduceMul, Nat.reduceLT, Int.reduceToNat, t1, t2, t5, hg, fun H => hk1.alen H, Int.lt_irrefl]
      exact ⟨by rw [hr], hE⟩

set_option maxRecDepth 100000 in
theorem has2_ok (r : Lv → Bool) (nm : ByteArray) (t : Tm) (hall : Tm.All (Fine2 r) t) (hb : Tm.All TmB t) (cells : List AV) (hT : TmR t cells) (H : AHeap) :
    SCall Try.prog 42 [.agg cells, .v (.string nm)] H fun x H' => x = abl (hasF r nm t) ∧ H' = H := by
  refine SCall.val (SCall.intro mixed cf42 ?_)
  have hT' := hT
  obtain ⟨lx, kx, ls, cs, rfl, hl1, hl2, hk1, hk2⟩ := hT.six
  simp -implicitDefEqProofs only [c42, go_sem, Nat.reduceEqDiff, Nat.reduceAdd, Nat.reduceLeDiff, ↓reduceIte, reduceCtorEq, Int.reduceBEq, Int.reduceBNe, Int.reduceLT, Int.reduceLE, Int.reduceGT, Int.reduceGE, Int.reduceNeg, Int.reduceAdd, Int.reduceSub, Nat.reduceMul, Nat.reduceLT, Int.reduceToNat, hl1.one, hl1.cells, hk1.one, hk1.cells]
  refine i_callA (fs := []) (cs := []) ?_ ?_ (check2_ok r t hall _ hT' _) ?_
  · rfl
  · simp -implicitDefEqProofs only [go_sem, Nat.reduceEqDiff, Nat.reduceAdd, Nat.reduceLeDiff, ↓reduceIte, reduceCtorEq, Int.reduceBEq, Int.reduceBNe, Int.reduceLT, Int.reduceLE, Int.reduceGT, Int.reduceGE, Int.reduceNeg, Int.reduceAdd, Int.reduceSub, Nat.reduceMul, Nat.reduceLT, Int.reduceToNat]
  rintro x H3 ⟨rfl, rfl⟩
  rw [check_same]
  by_cases hc : checkF r t = 0
  · rw [hc]
    simp -implicitDefEqProofs only [go_sem, Nat.reduceEqDiff, Nat.reduceAdd, Nat.reduceLeDiff, ↓reduceIte, reduceCtorEq, Int.reduceBEq, Int.reduceBNe, Int.reduceLT, Int.reduceLE, Int.reduceGT, Int.reduceGE, Int.reduceNeg, Int.reduceAdd, Int.reduceSub, Nat.reduceMul, Nat.reduceLT, Int.reduceToNat]
    refine i_callA (fs := []) (cs := []) ?_ ?_ (has2T_ok nm t (tmb_kok t hb) _ hT' _) ?_
    · rfl
    · simp -implicitDefEqProofs only [go_sem, Nat.reduceEqDiff, Nat.reduceAdd, Nat.reduceLeDiff, ↓reduceIte, reduceCtorEq, Int.reduceBEq, Int.reduceBNe, Int.reduceLT, Int.reduceLE, Int.reduceGT, Int.reduceGE, Int.reduceNeg, Int.reduceAdd, Int.reduceSub, Nat.reduceMul, Nat.reduceLT, Int.reduceToNat]
    rintro x H3 ⟨rfl, rfl⟩
    simp -implicitDefEqProofs only [go_sem, Nat.reduceEqDiff, Nat.reduceAdd, Nat.reduceLeDiff, ↓reduceIte, reduceCtorEq, Int.reduceBEq, Int.reduceBNe, Int.reduceLT, Int.reduceLE, Int.reduceGT, Int.reduceGE, Int.reduceNeg, Int.reduceAdd, Int.reduceSub, Nat.reduceMul, Nat.reduceLT, Int.reduceToNat]
    exact ⟨by simp [hasF, hc], (Ext.refl H).new _⟩
  · simp -implicitDefEqProofs only [go_sem, Nat.reduceEqDiff, Nat.reduceAdd, Nat.reduceLeDiff, ↓reduceIte, reduceCtorEq, Int.reduceBEq, Int.reduceBNe, Int.reduceLT, Int.reduceLE, Int.reduceGT, Int.reduceGE, Int.reduceNeg, Int.reduceAdd, Int.reduceSub, Nat.reduceMul, Nat.reduceLT, Int.reduceToNat, bne' hc]
    exact ⟨by simp [hasF, hc], (Ext.refl H).new _⟩
end Go.Proofs.Ytooaiddfokbffaa.E

/- The law TermChecks, walked. Conditions: none. -/
set_option linter.unusedVariables false
set_option linter.unusedSimpArgs false
namespace Go.Proofs.Ytooaiddfokbffaa.E
open Go Go.Proofs
attribute [local go_sem] s_seq s_ops s_draw s_block s_skip s_ret s_exit i_nil i_cons i_run i_runG s_condQ c_true c_false aop ev_t ev_c updO_at updO_no upd_at t_normal t_ret t_exit b_normal b_ret b_exit a_some ac_v ac_agg ac_ptr ac_slc ac_ro ac_rop ac_fn new_next set_next argTm_zero argTm_succ argTm_nil ab_bool ab_uv beq_self_eq_true Option.some_beq_some Bool.not_not beq_iff_eq decide_true decide_false Bool.not_true Bool.not_false afld aload astore apack alen_str alen_ro alen_slc alen_nil new_get set_get ite_true ite_false Option.map_some Option.bind_some ibin isShift Nat.add_zero Nat.zero_add List.length_cons List.length_nil List.drop_zero List.drop_succ_cons List.take_succ_cons List.take_zero if_true if_false setL List.set_cons_zero List.set_cons_succ List.all_cons List.all_nil one_int one_bool one_str one_nil one_ptr one_slc one_ro one_rop one_fn Bool.and_self Bool.and_true true_and and_true and_self Bool.false_eq_true post_ret post_normal resAll resOne packR Option.some.injEq exists_eq_left' List.map_cons List.map_nil List.nil_append List.append_nil List.cons_append d_nil d_cons k_nil k_cons g_op g_same g_new avBlock forall_eq' List.getElem?_cons_succ List.getElem?_cons_zero List.getElem?_nil okind gOk bne false_imp_iff forall_const imp_self implies_true true_imp_iff i_callG

theorem all_mono {p q : Tm → Prop} (h : ∀ t, p t → q t) : ∀ t, Tm.All p t → Tm.All q t := by
  refine Tm.rule fun f n hd s lv ks ih ha => ?_
  simp only [Tm.All] at *
  refine ⟨h _ ha.1, ?_⟩
  have key : ∀ ks', (∀ k ∈ ks', k ∈ ks) → Tm.AllL q ks' := by
    intro ks'
    induction ks' with
    | nil => intro _; trivial
    | cons k r ih' => intro hm; exact ⟨ih k (hm k (List.mem_cons_self ..)) (ha.2.mem k (hm k (List.mem_cons_self ..))), ih' fun k hk => hm k (List.mem_cons_of_mem _ hk)⟩
  exact key ks fun _ h => h

theorem tmb_fine {t : Tm} (h : Tm.All TmB t) : Tm.All (Fine canF) t := all_mono (fun t ⟨_, _, h1, h2, h3, h4⟩ => ⟨by omega, by omega, fun l hl => can_ok l (by have := (h4 l hl).2.1; omega)⟩) t h
theorem tmb_fine2 {t : Tm} (h : Tm.All TmB t) : Tm.All (Fine2 canF) t := all_mono (fun t ⟨_, _, h1, h2, h3, h4⟩ => ⟨by omega, by omega, fun l hl => can2_ok l (by have := (h4 l hl).2.1; omega)⟩) t h

set_option maxRecDepth 100000 in
theorem law_checks (t : Tm) (hb : Tm.All TmB t) (cells : List AV) (hT : TmR t cells) (ho : ∀ y ∈ cells, Old 0 y) (nm : ByteArray) (H : AHeap) :
    SCall Try.prog 7 [.agg cells, .v (.string nm)] H fun x H' => x = abl true ∧ H' = H := by
  refine SCall.val (SCall.intro mixed cf7 ?_)
  have hT' := hT
  obtain ⟨lx, kx, ls, cs, rfl, hl1, hl2, hk1, hk2⟩ := hT.six
  have hf1 := tmb_fine hb
  have hf2 := tmb_fine2 hb
  simp -implicitDefEqProofs only [c7, go_sem, Nat.reduceEqDiff, Nat.reduceAdd, Nat.reduceLeDiff, ↓reduceIte, reduceCtorEq, Int.reduceBEq, Int.reduceBNe, Int.reduceLT, Int.reduceLE, Int.reduceGT, Int.reduceGE, Int.reduceNeg, Int.reduceAdd, Int.reduceSub, Nat.reduceMul, Nat.reduceLT, Int.reduceToNat, hl1.one, hl1.cells, hk1.one, hk1.cells]
  refine i_callA (fs := []) (cs := []) ?_ ?_ (alive2_ok _) ?_
  · rfl
  · simp -implicitDefEqProofs only [go_sem, Nat.reduceEqDiff, Nat.reduceAdd, Nat.reduceLeDiff, ↓reduceIte, reduceCtorEq, Int.reduceBEq, Int.reduceBNe, Int.reduceLT, Int.reduceLE, Int.reduceGT, Int.reduceGE, Int.reduceNeg, Int.reduceAdd, Int.reduceSub, Nat.reduceMul, Nat.reduceLT, Int.reduceToNat]
  rintro x H3 ⟨rfl, rfl⟩
  simp -implicitDefEqProofs only [go_sem, Nat.reduceEqDiff, Nat.reduceAdd, Nat.reduceLeDiff, ↓reduceIte, reduceCtorEq, Int.reduceBEq, Int.reduceBNe, Int.reduceLT, Int.reduceLE, Int.reduceGT, Int.reduceGE, Int.reduceNeg, Int.reduceAdd, Int.reduceSub, Nat.reduceMul, Nat.reduceLT, Int.reduceToNat]
  refine i_callA (fs := []) (cs := []) ?_ ?_ (big_ok t hb _ hT' _) ?_
  · rfl
  · simp -implicitDefEqProofs only [go_sem, Nat.reduceEqDiff, Nat.reduceAdd, Nat.reduceLeDiff, ↓reduceIte, reduceCtorEq, Int.reduceBEq, Int.reduceBNe, Int.reduceLT, Int.reduceLE, Int.reduceGT, Int.reduceGE, Int.reduceNeg, Int.reduceAdd, Int.reduceSub, Nat.reduceMul, Nat.reduceLT, Int.reduceToNat]
  rintro x H3 ⟨rfl, rfl⟩
  cases hbig : bigF t with
  | true =>
    simp -implicitDefEqProofs only [go_sem, Nat.reduceEqDiff, Nat.reduceAdd, Nat.reduceLeDiff, ↓reduceIte, reduceCtorEq, Int.reduceBEq, Int.reduceBNe, Int.reduceLT, Int.reduceLE, Int.reduceGT, Int.reduceGE, Int.reduceNeg, Int.reduceAdd, Int.reduceSub, Nat.reduceMul, Nat.reduceLT, Int.reduceToNat]
    exact (Ext.refl H).new _
  | false =>
  obtain ⟨hs1, hs2, hs3⟩ := big_small hbig
  simp -implicitDefEqProofs only [go_sem, Nat.reduceEqDiff, Nat.reduceAdd, Nat.reduceLeDiff, ↓reduceIte, reduceCtorEq, Int.reduceBEq, Int.reduceBNe, Int.reduceLT, Int.reduceLE, Int.reduceGT, Int.reduceGE, Int.reduceNeg, Int.reduceAdd, Int.reduceSub, Nat.reduceMul, Nat.reduceLT, Int.reduceToNat]
  refine i_callA (fs := []) (cs := []) ?_ ?_ (lent_ok t hs1 _ hT' ho _) ?_
  · rfl
  · simp -implicitDefEqProofs only [go_sem, Nat.reduceEqDiff, Nat.reduceAdd, Nat.reduceLeDiff, ↓reduceIte, reduceCtorEq, Int.reduceBEq, Int.reduceBNe, Int.reduceLT, Int.reduceLE, Int.reduceGT, Int.reduceGE, Int.reduceNeg, Int.reduceAdd, Int.reduceSub, Nat.reduceMul, Nat.reduceLT, Int.reduceToNat]
  rintro x H3 ⟨⟨c, rfl, hc1, hc2⟩, rfl⟩
  have hc3 := LentR.tm t c hc1
  obtain ⟨lx2, ls2, cs2, lo2, ex2, hc6, g1, g2, g3, g4⟩ := hc1.six
  have e1 : ¬ H.next = H.next + 1 := by omega
  have e2 : ¬ H.next + 1 = H.next := by omega
  subst hc6
  simp -implicitDefEqProofs only [go_sem, Nat.reduceEqDiff, Nat.reduceAdd, Nat.reduceLeDiff, ↓reduceIte, reduceCtorEq, Int.reduceBEq, Int.reduceBNe, Int.reduceLT, Int.reduceLE, Int.reduceGT, Int.reduceGE, Int.reduceNeg, Int.reduceAdd, Int.reduceSub, Nat.reduceMul, Nat.reduceLT, Int.reduceToNat, g1.one, g1.cells, e1, e2]
  refine i_callA (fs := []) (cs := []) ?_ ?_ (check_ok canF t hf1 _ hc3 _) ?_
  · rfl
  · simp -implicitDefEqProofs only [go_sem, Nat.reduceEqDiff, Nat.reduceAdd, Nat.reduceLeDiff, ↓reduceIte, reduceCtorEq, Int.reduceBEq, Int.reduceBNe, Int.reduceLT, Int.reduceLE, Int.reduceGT, Int.reduceGE, Int.reduceNeg, Int.reduceAdd, Int.reduceSub, Nat.reduceMul, Nat.reduceLT, Int.reduceToNat]
  rintro x H3 ⟨rfl, rfl⟩
  simp -implicitDefEqProofs only [go_sem, Nat.reduceEqDiff, Nat.reduceAdd, Nat.reduceLeDiff, ↓reduceIte, reduceCtorEq, Int.reduceBEq, Int.reduceBNe, Int.reduceLT, Int.reduceLE, Int.reduceGT, Int.reduceGE, Int.reduceNeg, Int.reduceAdd, Int.reduceSub, Nat.reduceMul, Nat.reduceLT, Int.reduceToNat, e1, e2]
  refine i_callA (fs := []) (cs := []) ?_ ?_ (stay_ok t hs1 _ _ hc1 hT' _) ?_
  · rfl
  · simp -implicitDefEqProofs only [go_sem, Nat.reduceEqDiff, Nat.reduceAdd, Nat.reduceLeDiff, ↓reduceIte, reduceCtorEq, Int.reduceBEq, Int.reduceBNe, Int.reduceLT, Int.reduceLE, Int.reduceGT, Int.reduceGE, Int.reduceNeg, Int.reduceAdd, Int.reduceSub, Nat.reduceMul, Nat.reduceLT, Int.reduceToNat]
  rintro x H3 ⟨rfl, rfl⟩
  simp -implicitDefEqProofs only [go_sem, Nat.reduceEqDiff, Nat.reduceAdd, Nat.reduceLeDiff, ↓reduceIte, reduceCtorEq, Int.reduceBEq, Int.reduceBNe, Int.reduceLT, Int.reduceLE, Int.reduceGT, Int.reduceGE, Int.reduceNeg, Int.reduceAdd, Int.reduceSub, Nat.reduceMul, Nat.reduceLT, Int.reduceToNat, e1, e2, g_opG]
  refine i_callA (fs := []) (cs := []) ?_ ?_ (num2_ok (checkF canF t) _) ?_
  · rfl
  · simp -implicitDefEqProofs only [go_sem, Nat.reduceEqDiff, Nat.reduceAdd, Nat.reduceLeDiff, ↓reduceIte, reduceCtorEq, Int.reduceBEq, Int.reduceBNe, Int.reduceLT, Int.reduceLE, Int.reduceGT, Int.reduceGE, Int.reduceNeg, Int.reduceAdd, Int.reduceSub, Nat.reduceMul, Nat.reduceLT, Int.reduceToNat]
  rintro x H3 ⟨rfl, rfl⟩
  simp -implicitDefEqProofs only [go_sem, Nat.reduceEqDiff, Nat.reduceAdd, Nat.reduceLeDiff, ↓reduceIte, reduceCtorEq, Int.reduceBEq, Int.reduceBNe, Int.reduceLT, Int.reduceLE, Int.reduceGT, Int.reduceGE, Int.reduceNeg, Int.reduceAdd, Int.reduceSub, Nat.reduceMul, Nat.reduceLT, Int.reduceToNat, e1, e2, g_opG]
  refine i_callA (fs := []) (cs := []) ?_ ?_ (check2_ok canF t hf2 _ hT' _) ?_
  · rfl
  · simp -implicitDefEqProofs only [go_sem, Nat.reduceEqDiff, Nat.reduceAdd, Nat.reduceLeDiff, ↓reduceIte, reduceCtorEq, Int.reduceBEq, Int.reduceBNe, Int.reduceLT, Int.reduceLE, Int.reduceGT, Int.reduceGE, Int.reduceNeg, Int.reduceAdd, Int.reduceSub, Nat.reduceMul, Nat.reduceLT, Int.reduceToNat]
  rintro x H3 ⟨rfl, rfl⟩
  rw [check_same]
  simp -implicitDefEqProofs only [go_sem, Nat.reduceEqDiff, Nat.reduceAdd, Nat.reduceLeDiff, ↓reduceIte, reduceCtorEq, Int.reduceBEq, Int.reduceBNe, Int.reduceLT, Int.reduceLE, Int.reduceGT, Int.reduceGE, Int.reduceNeg, Int.reduceAdd, Int.reduceSub, Nat.reduceMul, Nat.reduceLT, Int.reduceToNat, e1, e2, g_opG]
  refine i_callA (fs := []) (cs := []) ?_ ?_ (size_ok canF t hf1 _ hT' _) ?_
  · rfl
  · simp -implicitDefEqProofs only [go_sem, Nat.reduceEqDiff, Nat.reduceAdd, Nat.reduceLeDiff, ↓reduceIte, reduceCtorEq, Int.reduceBEq, Int.reduceBNe, Int.reduceLT, Int.reduceLE, Int.reduceGT, Int.reduceGE, Int.reduceNeg, Int.reduceAdd, Int.reduceSub, Nat.reduceMul, Nat.reduceLT, Int.reduceToNat]
  rintro x H3 ⟨rfl, rfl⟩
  simp -implicitDefEqProofs only [go_sem, Nat.reduceEqDiff, Nat.reduceAdd, Nat.reduceLeDiff, ↓reduceIte, reduceCtorEq, Int.reduceBEq, Int.reduceBNe, Int.reduceLT, Int.reduceLE, Int.reduceGT, Int.reduceGE, Int.reduceNeg, Int.reduceAdd, Int.reduceSub, Nat.reduceMul, Nat.reduceLT, Int.reduceToNat, e1, e2, g_opG]
  refine i_callA (fs := []) (cs := []) ?_ ?_ (size2_ok canF t hf2 _ hT' _) ?_
  · rfl
  · simp -implicitDefEqProofs only [go_sem, Nat.reduceEqDiff, Nat.reduceAdd, Nat.reduceLeDiff, ↓reduceIte, reduceCtorEq, Int.reduceBEq, Int.reduceBNe, Int.reduceLT, Int.reduceLE, Int.reduceGT, Int.reduceGE, Int.reduceNeg, Int.reduceAdd, Int.reduceSub, Nat.reduceMul, Nat.reduceLT, Int.reduceToNat]
  rintro x H3 ⟨rfl, rfl⟩
  rw [size_same]
  simp -implicitDefEqProofs only [go_sem, Nat.reduceEqDiff, Nat.reduceAdd, Nat.reduceLeDiff, ↓reduceIte, reduceCtorEq, Int.reduceBEq, Int.reduceBNe, Int.reduceLT, Int.reduceLE, Int.reduceGT, Int.reduceGE, Int.reduceNeg, Int.reduceAdd, Int.reduceSub, Nat.reduceMul, Nat.reduceLT, Int.reduceToNat, e1, e2, g_opG]
  refine i_callA (fs := []) (cs := []) ?_ ?_ (free_ok canF t hf1 hb (by omega) _ hT' _) ?_
  · rfl
  · simp -implicitDefEqProofs only [go_sem, Nat.reduceEqDiff, Nat.reduceAdd, Nat.reduceLeDiff, ↓reduceIte, reduceCtorEq, Int.reduceBEq, Int.reduceBNe, Int.reduceLT, Int.reduceLE, Int.reduceGT, Int.reduceGE, Int.reduceNeg, Int.reduceAdd, Int.reduceSub, Nat.reduceMul, Nat.reduceLT, Int.reduceToNat]
  rintro x H3 ⟨rfl, rfl⟩
  simp -implicitDefEqProofs only [go_sem, Nat.reduceEqDiff, Nat.reduceAdd, Nat.reduceLeDiff, ↓reduceIte, reduceCtorEq, Int.reduceBEq, Int.reduceBNe, Int.reduceLT, Int.reduceLE, Int.reduceGT, Int.reduceGE, Int.reduceNeg, Int.reduceAdd, Int.reduceSub, Nat.reduceMul, Nat.reduceLT, Int.reduceToNat, e1, e2, g_opG]
  refine i_callA (fs := []) (cs := []) ?_ ?_ (free2_ok canF t hf2 hb (by omega) _ hT' _) ?_
  · rfl
  · simp -implicitDefEqProofs only [go_sem, Nat.reduceEqDiff, Nat.reduceAdd, Nat.reduceLeDiff, ↓reduceIte, reduceCtorEq, Int.reduceBEq, Int.reduceBNe, Int.reduceLT, Int.reduceLE, Int.reduceGT, Int.reduceGE, Int.reduceNeg, Int.reduceAdd, Int.reduceSub, Nat.reduceMul, Nat.reduceLT, Int.reduceToNat]
  rintro x H3 ⟨rfl, rfl⟩
  simp -implicitDefEqProofs only [go_sem, Nat.reduceEqDiff, Nat.reduceAdd, Nat.reduceLeDiff, ↓reduceIte, reduceCtorEq, Int.reduceBEq, Int.reduceBNe, Int.reduceLT, Int.reduceLE, Int.reduceGT, Int.reduceGE, Int.reduceNeg, Int.reduceAdd, Int.reduceSub, Nat.reduceMul, Nat.reduceLT, Int.reduceToNat, e1, e2, g_opG]
  refine i_callA (fs := []) (cs := []) ?_ ?_ (has_ok canF nm t hf1 hb (by omega) _ hT' _) ?_
  · rfl
  · simp -implicitDefEqProofs only [go_sem, Nat.reduceEqDiff, Nat.reduceAdd, Nat.reduceLeDiff, ↓reduceIte, reduceCtorEq, Int.reduceBEq, Int.reduceBNe, Int.reduceLT, Int.reduceLE, Int.reduceGT, Int.reduceGE, Int.reduceNeg, Int.reduceAdd, Int.reduceSub, Nat.reduceMul, Nat.reduceLT, Int.reduceToNat]
  rintro x H3 ⟨rfl, rfl⟩
  simp -implicitDefEqProofs only [go_sem, Nat.reduceEqDiff, Nat.reduceAdd, Nat.reduceLeDiff, ↓reduceIte, reduceCtorEq, Int.reduceBEq, Int.reduceBNe, Int.reduceLT, Int.reduceLE, Int.reduceGT, Int.reduceGE, Int.reduceNeg, Int.reduceAdd, Int.reduceSub, Nat.reduceMul, Nat.reduceLT, Int.reduceToNat, e1, e2, g_opG]
  refine i_callA (fs := []) (cs := []) ?_ ?_ (has2_ok canF nm t hf2 hb _ hT' _) ?_
  · rfl
  · simp -implicitDefEqProofs only [go_sem, Nat.reduceEqDiff, Nat.reduceAdd, Nat.reduceLeDiff, ↓reduceIte, reduceCtorEq, Int.reduceBEq, Int.reduceBNe, Int.reduceLT, Int.reduceLE, Int.reduceGT, Int.reduceGE, Int.reduceNeg, Int.reduceAdd, Int.reduceSub, Nat.reduceMul, Nat.reduceLT, Int.reduceToNat]
  rintro x H3 ⟨rfl, rfl⟩
  simp -implicitDefEqProofs only [go_sem, Nat.reduceEqDiff, Nat.reduceAdd, Nat.reduceLeDiff, ↓reduceIte, reduceCtorEq, Int.reduceBEq, Int.reduceBNe, Int.reduceLT, Int.reduceLE, Int.reduceGT, Int.reduceGE, Int.reduceNeg, Int.reduceAdd, Int.reduceSub, Nat.reduceMul, Nat.reduceLT, Int.reduceToNat, BEq.rfl]
  exact (((Ext.refl H).new _).new _).set (by omega) _
end Go.Proofs.Ytooaiddfokbffaa.E

/- What is handed to a law, as abstract values. Conditions: none. -/
set_option linter.unusedVariables false
set_option linter.unusedSimpArgs false
namespace Go.Proofs.Ytooaiddfokbffaa.E
open Go Go.Proofs Go.ChangeShapes Go.WideShapes Go.ChangeAt Go.RowKit

section
variable {H : Type} {enc : TypeId × Value → H} {w : World} {base : Nat} {sp : Nat → Bool} {held : Bool}

theorem old0 {x : AV} {u : Value} (h : VRel Emb.empty w x u) : Old 0 x := h.old fun b c hm => by cases hm

theorem agg_of {v : Value} (h : v.cells.toList.length = 6) : ∃ cs : Array Value, v = .agg cs := by
  cases v <;> simp [Value.cells] at h
  exact ⟨_, rfl⟩

theorem term_arg {v : Value} {d : DataW H} {ps : List MemPlace} (h : DataW.Trod enc Try.prog w base sp held 25 v d ps) (hw : Wt Try.prog 25 d) :
    ∃ (t : Tm) (ys : List AV), Tm.All TmB t ∧ TmR t ys ∧ (∀ y ∈ ys, Old 0 y) ∧ VRel Emb.empty w (.agg ys) v := by
  obtain ⟨fuel, hf⟩ := h
  obtain ⟨t, ys, h1, h2, h3⟩ := trod_tm fuel _ d ps hf hw
  have hl : v.cells.toList.length = 6 := by rw [h3.1, h2.len]
  obtain ⟨cs, rfl⟩ := agg_of hl
  have hv : VRel Emb.empty w (.agg ys) (.agg cs) := .agg ys cs (by have := h3.1; simpa [Value.cells] using this) fun i x u hx hu => h3.2 i x u hx (by simpa [Value.cells] using hu)
  exact ⟨t, ys, h1, h2, (old0 hv).aggs, hv⟩

theorem wt_arg {ts : List TypeId} {ds : List (DataW H)} (hsz : (DataW.weightsEach Try.prog ts ds).all (· ≤ reachBytes) = true) {j : Nat} {t : TypeId} {d : DataW H} (ht : ts[j]? = some t) (hd : ds[j]? = some d) : Wt Try.prog t d := by
  intro n hn
  have := List.all_eq_true.1 hsz n (DataW.weights_mem_each ht hd n hn)
  simpa using this

theorem lrel_nil : LRel Emb.empty w [] [] := ⟨rfl, fun i x u h => by simp at h⟩

/-- From the abstract call to the law's own words. -/
theorem law_walk {f : FuncId} {args : List AV} {us : List Value} (h : SCall Try.prog f args AHeap.empty fun x H' => x = abl true ∧ H' = AHeap.empty) (hL : LRel Emb.empty w args us) :
    Calls Try.prog f us.toArray w fun e w' => e = .returned (.bool true) ∧ Below w.heap.size w w' := by
  refine (h.2 Emb.empty w us (HRel.none w) hL).mono fun en w' hp => ?_
  obtain ⟨u, x, H', e', rfl, h1, h2, h3, h4⟩ := hp
  obtain ⟨rfl, _⟩ := h1
  cases h3
  exact ⟨rfl, h4.os, h4.tape, h4.output, h4.size, fun k hk => h4.frame k hk (nohit k)⟩
end
theorem laidOut : laidOutB Try.prog = true := by kernel_rfl
theorem own : ownKnob Try.prog.godebug = none := by kernel_rfl
end Go.Proofs.Ytooaiddfokbffaa.E

/- Levels that are canonical are one where each is at most the other. Conditions: none. -/
set_option linter.unusedVariables false
set_option linter.unusedSimpArgs false
namespace Go.Proofs.Ytooaiddfokbffaa.E
open Go Go.Proofs
attribute [local go_sem] s_seq s_ops s_draw s_block s_skip s_ret s_exit i_nil i_cons i_run i_runG s_condQ c_true c_false aop ev_t ev_c updO_at updO_no upd_at t_normal t_ret t_exit b_normal b_ret b_exit a_some ac_v ac_agg ac_ptr ac_slc ac_ro ac_rop ac_fn new_next set_next argTm_zero argTm_succ argTm_nil ab_bool ab_uv beq_self_eq_true Option.some_beq_some Bool.not_not beq_iff_eq decide_true decide_false Bool.not_true Bool.not_false afld aload astore apack alen_str alen_ro alen_slc alen_nil new_get set_get ite_true ite_false Option.map_some Option.bind_some ibin isShift Nat.add_zero Nat.zero_add List.length_cons List.length_nil List.drop_zero List.drop_succ_cons List.take_succ_cons List.take_zero if_true if_false setL List.set_cons_zero List.set_cons_succ List.all_cons List.all_nil one_int one_bool one_str one_nil one_ptr one_slc one_ro one_rop one_fn Bool.and_self Bool.and_true true_and and_true and_self Bool.false_eq_true post_ret post_normal resAll resOne packR Option.some.injEq exists_eq_left' List.map_cons List.map_nil List.nil_append List.append_nil List.cons_append d_nil d_cons k_nil k_cons g_op g_same g_new avBlock forall_eq' List.getElem?_cons_succ List.getElem?_cons_zero List.getElem?_nil okind gOk bne false_imp_iff forall_const imp_self implies_true true_imp_iff i_callG

def topF (n : Int) (vars : List (Int × Int)) : Int := vars.foldl (fun m v => mx m v.2) n
def anyLe (v : Int × Int) (bs : List (Int × Int)) : Bool := bs.any fun w => v.1 == w.1 && decide (v.2 ≤ w.2)
def leqF (a b : Lv) : Bool := decide (a.n ≤ topF b.n b.vars) && a.vars.all fun v => anyLe v b.vars
def lvEq (a b : Lv) : Bool := a.n == b.n && decide (a.vars = b.vars)

theorem topF_spec : ∀ (vars : List (Int × Int)) (n : Int), n ≤ topF n vars ∧ (∀ v ∈ vars, v.2 ≤ topF n vars) ∧ (topF n vars = n ∨ ∃ v ∈ vars, topF n vars = v.2)
  | [], n => ⟨Int.le_refl _, (fun v hv => by cases hv), .inl rfl⟩
  | v :: r, n => by
    obtain ⟨h1, h2, h3⟩ := topF_spec r (mx n v.2)
    have e : topF n (v :: r) = topF (mx n v.2) r := rfl
    rw [e]
    rcases mx_spec n v.2 with ⟨q1, q2⟩ | ⟨q1, q2⟩ <;> rw [q2] at h1 h2 h3 ⊢
    · refine ⟨by omega, fun w hw => ?_, ?_⟩
      · rcases List.mem_cons.1 hw with rfl | hw
        · exact h1
        · exact h2 w hw
      · rcases h3 with h3 | ⟨w, hw, h3⟩
        · exact .inr ⟨v, List.mem_cons_self .., h3⟩
        · exact .inr ⟨w, List.mem_cons_of_mem _ hw, h3⟩
    · refine ⟨h1, fun w hw => ?_, ?_⟩
      · rcases List.mem_cons.1 hw with rfl | hw
        · omega
        · exact h2 w hw
      · rcases h3 with h3 | ⟨w, hw, h3⟩
        · exact .inl h3
        · exact .inr ⟨w, List.mem_cons_of_mem _ hw, h3⟩

theorem can_spec {l : Lv} (h : canF l = true) : rightF l = true ∧ SortK l.vars ∧ (∀ v ∈ l.vars, 0 ≤ v.1 ∧ 0 ≤ v.2) ∧ 0 ≤ l.n ∧ (l.n = 0 ∨ ∀ v ∈ l.vars, v.2 < l.n) ∧ NormF l = (l, 0) := by
  simp only [canF, Bool.and_eq_true, beq_iff_eq, decide_eq_true_eq] at h
  obtain ⟨⟨h1, h2⟩, h3⟩ := h
  have hp := right_pos h1
  have hv : normV l.vars = l.vars := h3
  have hn0 : 0 ≤ l.n := by
    simp only [rightF, fineF, Bool.and_eq_true, decide_eq_true_eq] at h1
    exact h1.1.1.1
  have hn : tidyN l.n l.vars = l.n := by
    have : normN l.n (normV l.vars) = l.n := h2
    rw [hv, normN_eq] at this
    · exact this
    · intro v hv; exact (hp v hv).2
  refine ⟨h1, ?_, hp, hn0, ?_, ?_⟩
  · have := (normV_spec l.vars).1
    rwa [hv] at this
  · unfold tidyN at hn
    split at hn
    · exact .inl hn.symm
    · rename_i hno
      refine .inr fun v hv => ?_
      rcases Int.lt_or_le v.2 l.n with h | h
      · exact h
      · exact absurd (List.any_eq_true.2 ⟨v, hv, decide_eq_true h⟩) hno
  · unfold NormF
    rw [if_pos h1]
    have : normF l = l := by cases l; simp only [normF] at *; simp only [Lv.mk.injEq]; exact ⟨h2, h3⟩
    rw [this]

theorem sort_key {l : List (Int × Int)} (h : SortK l) {x y : Int × Int} (hx : x ∈ l) (hy : y ∈ l) (he : x.1 = y.1) : x = y := by
  have h1 := ((best_sort h).2 hx).2 y hy he.symm
  have h2 := ((best_sort h).2 hy).2 x hx he
  exact Prod.ext he (by omega)

theorem leq_both {a b : Lv} (ha : canF a = true) (hb : canF b = true) : (leqF a b && leqF b a) = lvEq a b := by
  obtain ⟨_, sa, pa, na, ca, _⟩ := can_spec ha
  obtain ⟨_, sb, pb, nb, cb, _⟩ := can_spec hb
  rw [Bool.eq_iff_iff]
  simp only [leqF, lvEq, anyLe, Bool.and_eq_true, decide_eq_true_eq, List.all_eq_true, List.any_eq_true, beq_iff_eq]
  constructor
  · rintro ⟨⟨h1, h2⟩, ⟨h3, h4⟩⟩
    have hv : a.vars = b.vars := by
      refine sort_ext sa sb fun x => ⟨fun hx => ?_, fun hx => ?_⟩
      · obtain ⟨w, hw, e1, e2⟩ := h2 x hx
        obtain ⟨u, hu, e3, e4⟩ := h4 w hw
        have : u = x := sort_key sa hu hx (by omega)
        subst this
        have : w = u := Prod.ext (by omega) (by omega)
        rw [← this]; exact hw
      · obtain ⟨w, hw, e1, e2⟩ := h4 x hx
        obtain ⟨u, hu, e3, e4⟩ := h2 w hw
        have : u = x := sort_key sb hu hx (by omega)
        subst this
        have : w = u := Prod.ext (by omega) (by omega)
        rw [← this]; exact hw
    refine ⟨?_, hv⟩
    obtain ⟨t1, t2, t3⟩ := topF_spec b.vars b.n
    obtain ⟨u1, u2, u3⟩ := topF_spec a.vars a.n
    have l1 : a.n = 0 ∨ a.n ≤ b.n := by
      rcases ca with h | h
      · exact .inl h
      · rcases t3 with h5 | ⟨v, hv', h5⟩
        · exact .inr (by omega)
        · have := h v (by rw [hv]; exact hv'); omega
    have l2 : b.n = 0 ∨ b.n ≤ a.n := by
      rcases cb with h | h
      · exact .inl h
      · rcases u3 with h5 | ⟨v, hv', h5⟩
        · exact .inr (by omega)
        · have := h v (by rw [← hv]; exact hv'); omega
    omega
  · rintro ⟨h1, h2⟩
    obtain ⟨t1, t2, t3⟩ := topF_spec b.vars b.n
    obtain ⟨u1, u2, u3⟩ := topF_spec a.vars a.n
    refine ⟨⟨by omega, fun v hv => ⟨v, by rw [← h2]; exact hv, rfl, Int.le_refl _⟩⟩, ⟨by omega, fun v hv => ⟨v, by rw [h2]; exact hv, rfl, Int.le_refl _⟩⟩⟩

set_option maxRecDepth 100000 in
theorem leq_ok (a b : Lv) (ax bx : AV) (ca cb : List AV) (ha1 : SlR a.vars.length ax ca) (ha2 : VarsR a.vars ca) (hb1 : SlR b.vars.length bx cb) (hb2 : VarsR b.vars cb) (hca : canF a = true) (hcb : canF b = true) (H : AHeap) :
    SCall Try.prog 177 [.agg [aint a.n, ax], .agg [aint b.n, bx]] H fun x H' => x = abl (leqF a b) ∧ H' = H := by
  obtain ⟨ra, _, _, _, _, Na⟩ := can_spec hca
  obtain ⟨rb, _, _, _, _, Nb⟩ := can_spec hcb
  have la : a.vars.length ≤ 64 := by simp only [rightF, Bool.and_eq_true, decide_eq_true_eq] at ra; exact ra.1.2
  have lb : b.vars.length ≤ 64 := by simp only [rightF, Bool.and_eq_true, decide_eq_true_eq] at rb; exact rb.1.2
  refine SCall.val (SCall.intro mixed cf177 ?_)
  have e1 : ¬ H.next = H.next + 1 := by omega
  have e2 : ¬ H.next + 1 = H.next := by omega
  simp -implicitDefEqProofs only [c177, go_sem, Nat.reduceEqDiff, Nat.reduceAdd, Nat.reduceLeDiff, ↓reduceIte, reduceCtorEq, Int.reduceBEq, Int.reduceBNe, Int.reduceLT, Int.reduceLE, Int.reduceGT, Int.reduceGE, Int.reduceNeg, Int.reduceAdd, Int.reduceSub, Nat.reduceMul, Nat.reduceLT, Int.reduceToNat, ha1.one, ha1.cells, hb1.one, hb1.cells, e1, e2]
  refine i_callA (fs := []) (cs := []) ?_ ?_ (Norm2_ok a ax ca ha1 ha2 (by omega) _) ?_
  · rfl
  · simp -implicitDefEqProofs only [go_sem, Nat.reduceEqDiff, Nat.reduceAdd, Nat.reduceLeDiff, ↓reduceIte, reduceCtorEq, Int.reduceBEq, Int.reduceBNe, Int.reduceLT, Int.reduceLE, Int.reduceGT, Int.reduceGE, Int.reduceNeg, Int.reduceAdd, Int.reduceSub, Nat.reduceMul, Nat.reduceLT, Int.reduceToNat]
  rintro x H3 ⟨hx, rfl⟩
  rw [Na] at hx
  obtain ⟨y1, rfl, ⟨⟨d1, p1, p2⟩, _⟩⟩ := hx
  simp -implicitDefEqProofs only [go_sem, Nat.reduceEqDiff, Nat.reduceAdd, Nat.reduceLeDiff, ↓reduceIte, reduceCtorEq, Int.reduceBEq, Int.reduceBNe, Int.reduceLT, Int.reduceLE, Int.reduceGT, Int.reduceGE, Int.reduceNeg, Int.reduceAdd, Int.reduceSub, Nat.reduceMul, Nat.reduceLT, Int.reduceToNat, p1.one, p1.cells, e1, e2]
  refine i_callA (fs := []) (cs := []) ?_ ?_ (Norm2_ok b bx cb hb1 hb2 (by omega) _) ?_
  · rfl
  · simp -implicitDefEqProofs only [go_sem, Nat.reduceEqDiff, Nat.reduceAdd, Nat.reduceLeDiff, ↓reduceIte, reduceCtorEq, Int.reduceBEq, Int.reduceBNe, Int.reduceLT, Int.reduceLE, Int.reduceGT, Int.reduceGE, Int.reduceNeg, Int.reduceAdd, Int.reduceSub, Nat.reduceMul, Nat.reduceLT, Int.reduceToNat]
  rintro x H3 ⟨hx, rfl⟩
  rw [Nb] at hx
  obtain ⟨y2, rfl, ⟨⟨d2, q1, q2⟩, _⟩⟩ := hx
  simp -implicitDefEqProofs only [go_sem, Nat.reduceEqDiff, Nat.reduceAdd, Nat.reduceLeDiff, ↓reduceIte, reduceCtorEq, Int.reduceBEq, Int.reduceBNe, Int.reduceLT, Int.reduceLE, Int.reduceGT, Int.reduceGE, Int.reduceNeg, Int.reduceAdd, Int.reduceSub, Nat.reduceMul, Nat.reduceLT, Int.reduceToNat, p1.one, p1.cells, q1.one, q1.cells, e1, e2]
  -- the greatest of b
  generalize hG : ((((H.new (.cells [aint a.n, ax])).new (.cells [aint b.n, bx])).set H.next (.cells [aint a.n, y1])).set (H.next + 1) (.cells [aint b.n, y2])) = G
  have hE0 : Ext H G := by rw [← hG]; exact ((((Ext.refl H).new _).new _).set (Nat.le_refl _) _).set (by omega) _
  have hg0 : G.get H.next = some (.cells [aint a.n, y1]) := by rw [← hG]; simp -implicitDefEqProofs only [go_sem, Nat.reduceEqDiff, Nat.reduceAdd, Nat.reduceLeDiff, ↓reduceIte, reduceCtorEq, Int.reduceBEq, Int.reduceBNe, Int.reduceLT, Int.reduceLE, Int.reduceGT, Int.reduceGE, Int.reduceNeg, Int.reduceAdd, Int.reduceSub, Nat.reduceMul, Nat.reduceLT, Int.reduceToNat, e1, e2]
  have hg1 : G.get (H.next + 1) = some (.cells [aint b.n, y2]) := by rw [← hG]; simp -implicitDefEqProofs only [go_sem, Nat.reduceEqDiff, Nat.reduceAdd, Nat.reduceLeDiff, ↓reduceIte, reduceCtorEq, Int.reduceBEq, Int.reduceBNe, Int.reduceLT, Int.reduceLE, Int.reduceGT, Int.reduceGE, Int.reduceNeg, Int.reduceAdd, Int.reduceSub, Nat.reduceMul, Nat.reduceLT, Int.reduceToNat, e1, e2]
  refine cutK (M := fun st => st.tm 2 = .ptr H.next 0 ∧ st.tm 3 = .ptr (H.next + 1) 0 ∧ st.heap = G ∧ st.tm 7 = aint (topF b.n b.vars)) ?_ ?_
  · refine swp_range b.vars.length (fun i st => st.tm 2 = .ptr H.next 0 ∧ st.tm 3 = .ptr (H.next + 1) 0 ∧ st.heap = G ∧ st.tm 8 = aint i ∧ ∃ m, st.tm 7 = aint m ∧ topF b.n b.vars = topF m (b.vars.drop i)) ?_ ?_ ?_
    · exact ⟨rfl, rfl, rfl, rfl, b.n, rfl, by simp⟩
    · rintro i ⟨tm, H2⟩ hi ⟨t2, t3, hh, t8, m, t7, hr⟩
      simp only at t2 t3 t7 t8 hh
      subst hh
      have hltI : (i : Int) < (b.vars.length : Int) := by omega
      have hix := q1.aix 2 hi
      obtain ⟨hle, hld⟩ := q2.at hi
      have hld1 : (d2.drop (i * 2 + 1)).take 1 = [aint b.vars[i].2] := by
        have := congrArg (fun q => (q.drop 1).take 1) hld
        simpa [List.drop_take, List.drop_drop, List.take_take] using this
      have hle1 : i * 2 + 1 + 1 ≤ d2.length := by omega
      have hdrop : b.vars.drop i = b.vars[i] :: b.vars.drop (i + 1) := List.drop_eq_getElem_cons hi
      have w3 : IntKind.i64.wrap ((i : Int) + 1) = (i : Int) + 1 := i64_ok _ (by omega)
      rw [hdrop] at hr
      have hr' : topF b.n b.vars = topF (mx m b.vars[i].2) (b.vars.drop (i + 1)) := hr
      by_cases hgt : b.vars[i].2 > m
      · rw [mx_pos hgt] at hr'
        simp -implicitDefEqProofs only [go_sem, Nat.reduceEqDiff, Nat.reduceAdd, Nat.reduceLeDiff, ↓reduceIte, reduceCtorEq, Int.reduceBEq, Int.reduceBNe, Int.reduceLT, Int.reduceLE, Int.reduceGT, Int.reduceGE, Int.reduceNeg, Int.reduceAdd, Int.reduceSub, Nat.reduceMul, Nat.reduceLT, Int.reduceToNat, t2, t3, t7, t8, hg1, fun H => q1.alen H, hltI, hix, hle1, hld1, hgt, w3]
        exact ⟨by simp, _, rfl, hr'⟩
      · rw [mx_neg hgt] at hr'
        simp -implicitDefEqProofs only [go_sem, Nat.reduceEqDiff, Nat.reduceAdd, Nat.reduceLeDiff, ↓reduceIte, reduceCtorEq, Int.reduceBEq, Int.reduceBNe, Int.reduceLT, Int.reduceLE, Int.reduceGT, Int.reduceGE, Int.reduceNeg, Int.reduceAdd, Int.reduceSub, Nat.reduceMul, Nat.reduceLT, Int.reduceToNat, t2, t3, t7, t8, hg1, fun H => q1.alen H, hltI, hix, hle1, hld1, hgt, w3]
        exact ⟨by simp, _, rfl, hr'⟩
    · rintro ⟨tm, H2⟩ ⟨t2, t3, hh, t8, m, t7, hr⟩
      simp only at t2 t3 t7 t8 hh
      subst hh
      rw [List.drop_length] at hr
      simp -implicitDefEqProofs only [go_sem, Nat.reduceEqDiff, Nat.reduceAdd, Nat.reduceLeDiff, ↓reduceIte, reduceCtorEq, Int.reduceBEq, Int.reduceBNe, Int.reduceLT, Int.reduceLE, Int.reduceGT, Int.reduceGE, Int.reduceNeg, Int.reduceAdd, Int.reduceSub, Nat.reduceMul, Nat.reduceLT, Int.reduceToNat, t2, t3, t7, t8, hg1, fun H => q1.alen H, Int.lt_irrefl]
      rw [hr]; rfl
  rintro ⟨tm, H2⟩ ⟨t2, t3, hh, t7⟩
  simp only at t2 t3 t7 hh
  subst hh
  by_cases htop : a.n > topF b.n b.vars
  · simp -implicitDefEqProofs only [go_sem, Nat.reduceEqDiff, Nat.reduceAdd, Nat.reduceLeDiff, ↓reduceIte, reduceCtorEq, Int.reduceBEq, Int.reduceBNe, Int.reduceLT, Int.reduceLE, Int.reduceGT, Int.reduceGE, Int.reduceNeg, Int.reduceAdd, Int.reduceSub, Nat.reduceMul, Nat.reduceLT, Int.reduceToNat, t2, t3, t7, hg0, htop]
    exact ⟨by simp [leqF]; omega, hE0⟩
  have hl0 : leqF a b = a.vars.all fun v => anyLe v b.vars := by
    simp only [leqF]
    rw [decide_eq_true (by omega), Bool.true_and]
  rw [hl0]
  simp -implicitDefEqProofs only [go_sem, Nat.reduceEqDiff, Nat.reduceAdd, Nat.reduceLeDiff, ↓reduceIte, reduceCtorEq, Int.reduceBEq, Int.reduceBNe, Int.reduceLT, Int.reduceLE, Int.reduceGT, Int.reduceGE, Int.reduceNeg, Int.reduceAdd, Int.reduceSub, Nat.reduceMul, Nat.reduceLT, Int.reduceToNat, t2, t3, t7, hg0, htop]
  refine swp_range a.vars.length (fun i st => st.tm 2 = .ptr H.next 0 ∧ st.tm 3 = .ptr (H.next + 1) 0 ∧ st.heap = H2 ∧ st.tm 9 = aint i ∧ (a.vars.all fun v => anyLe v b.vars) = (a.vars.drop i).all fun v => anyLe v b.vars) ?_ ?_ ?_
  · refine ⟨?_, ?_, rfl, rfl, by simp⟩
    all_goals simp -implicitDefEqProofs only [go_sem, Nat.reduceEqDiff, Nat.reduceAdd, Nat.reduceLeDiff, ↓reduceIte, reduceCtorEq, Int.reduceBEq, Int.reduceBNe, Int.reduceLT, Int.reduceLE, Int.reduceGT, Int.reduceGE, Int.reduceNeg, Int.reduceAdd, Int.reduceSub, Nat.reduceMul, Nat.reduceLT, Int.reduceToNat, t2, t3]
  · rintro i ⟨tm, H5⟩ hi ⟨t2, t3, hh, t9, hr⟩
    simp only at t2 t3 t9 hh
    subst hh
    have hltI : (i : Int) < (a.vars.length : Int) := by omega
    have hixa := p1.aix 2 hi
    obtain ⟨hlea, hlda⟩ := p2.at hi
    have hld0 : (d1.drop (i * 2)).take 1 = [aint a.vars[i].1] := by
      have := congrArg (List.take 1) hlda
      simpa [List.take_take] using this
    have hld1 : (d1.drop (i * 2 + 1)).take 1 = [aint a.vars[i].2] := by
      have := congrArg (fun q => (q.drop 1).take 1) hlda
      simpa [List.drop_take, List.drop_drop, List.take_take] using this
    have hle0 : i * 2 + 1 ≤ d1.length := by omega
    have hle1 : i * 2 + 1 + 1 ≤ d1.length := by omega
    have hdrop : a.vars.drop i = a.vars[i] :: a.vars.drop (i + 1) := List.drop_eq_getElem_cons hi
    have w3 : IntKind.i64.wrap ((i : Int) + 1) = (i : Int) + 1 := i64_ok _ (by omega)
    rw [hdrop, List.all_cons] at hr
    simp -implicitDefEqProofs only [go_sem, Nat.reduceEqDiff, Nat.reduceAdd, Nat.reduceLeDiff, ↓reduceIte, reduceCtorEq, Int.reduceBEq, Int.reduceBNe, Int.reduceLT, Int.reduceLE, Int.reduceGT, Int.reduceGE, Int.reduceNeg, Int.reduceAdd, Int.reduceSub, Nat.reduceMul, Nat.reduceLT, Int.reduceToNat, t2, t3, t9, hg0, fun H => p1.alen H, hltI]
    refine cutK (M := fun st => st.tm 2 = .ptr H.next 0 ∧ st.tm 3 = .ptr (H.next + 1) 0 ∧ st.heap = H5 ∧ st.tm 9 = aint i ∧ st.tm 10 = abl (anyLe a.vars[i] b.vars)) ?_ ?_
    · refine swp_range b.vars.length (fun j st => st.tm 2 = .ptr H.next 0 ∧ st.tm 3 = .ptr (H.next + 1) 0 ∧ st.heap = H5 ∧ st.tm 9 = aint i ∧ st.tm 11 = aint j ∧ ∃ m, st.tm 10 = abl m ∧ anyLe a.vars[i] b.vars = (m || anyLe a.vars[i] (b.vars.drop j))) ?_ ?_ ?_
      · refine ⟨?_, ?_, rfl, ?_, rfl, false, ?_, by simp⟩
        all_goals simp -implicitDefEqProofs only [go_sem, Nat.reduceEqDiff, Nat.reduceAdd, Nat.reduceLeDiff, ↓reduceIte, reduceCtorEq, Int.reduceBEq, Int.reduceBNe, Int.reduceLT, Int.reduceLE, Int.reduceGT, Int.reduceGE, Int.reduceNeg, Int.reduceAdd, Int.reduceSub, Nat.reduceMul, Nat.reduceLT, Int.reduceToNat, t2, t3, t9]
      · rintro j ⟨tm, H6⟩ hj ⟨t2, t3, hh, t9, t11, m, t10, hq⟩
        simp only at t2 t3 t9 t10 t11 hh
        subst hh
        have hltJ : (j : Int) < (b.vars.length : Int) := by omega
        have hixb := q1.aix 2 hj
        obtain ⟨hleb, hldb⟩ := q2.at hj
        have hmd0 : (d2.drop (j * 2)).take 1 = [aint b.vars[j].1] := by
          have := congrArg (List.take 1) hldb
          simpa [List.take_take] using this
        have hmd1 : (d2.drop (j * 2 + 1)).take 1 = [aint b.vars[j].2] := by
          have := congrArg (fun q => (q.drop 1).take 1) hldb
          simpa [List.drop_take, List.drop_drop, List.take_take] using this
        have hme0 : j * 2 + 1 ≤ d2.length := by omega
        have hme1 : j * 2 + 1 + 1 ≤ d2.length := by omega
        have hdrop' : b.vars.drop j = b.vars[j] :: b.vars.drop (j + 1) := List.drop_eq_getElem_cons hj
        have w4 : IntKind.i64.wrap ((j : Int) + 1) = (j : Int) + 1 := i64_ok _ (by omega)
        have hstep : anyLe a.vars[i] (b.vars.drop j) = ((a.vars[i].1 == b.vars[j].1 && decide (a.vars[i].2 ≤ b.vars[j].2)) || anyLe a.vars[i] (b.vars.drop (j + 1))) := by
          rw [hdrop']; rfl
        rw [hstep] at hq
        cases m with
        | true =>
          simp -implicitDefEqProofs only [go_sem, Nat.reduceEqDiff, Nat.reduceAdd, Nat.reduceLeDiff, ↓reduceIte, reduceCtorEq, Int.reduceBEq, Int.reduceBNe, Int.reduceLT, Int.reduceLE, Int.reduceGT, Int.reduceGE, Int.reduceNeg, Int.reduceAdd, Int.reduceSub, Nat.reduceMul, Nat.reduceLT, Int.reduceToNat, t2, t3, t9, t10, t11, hg0, hg1, fun H => q1.alen H, hltJ, w4]
          exact ⟨by simp, true, rfl, by rw [hq]; rfl⟩
        | false =>
          cases c1 : (a.vars[i].1 == b.vars[j].1) with
          | false =>
            rw [c1] at hq
            simp -implicitDefEqProofs only [go_sem, Nat.reduceEqDiff, Nat.reduceAdd, Nat.reduceLeDiff, ↓reduceIte, reduceCtorEq, Int.reduceBEq, Int.reduceBNe, Int.reduceLT, Int.reduceLE, Int.reduceGT, Int.reduceGE, Int.reduceNeg, Int.reduceAdd, Int.reduceSub, Nat.reduceMul, Nat.reduceLT, Int.reduceToNat, t2, t3, t9, t10, t11, hg0, hg1, fun H => q1.alen H, hltJ, hixa, hixb, hle0, hld0, hme0, hmd0, c1, w4]
            exact ⟨by simp, false, rfl, by rw [hq]; rfl⟩
          | true =>
            rw [c1] at hq
            by_cases c2 : a.vars[i].2 ≤ b.vars[j].2
            · rw [decide_eq_true c2] at hq
              simp -implicitDefEqProofs only [go_sem, Nat.reduceEqDiff, Nat.reduceAdd, Nat.reduceLeDiff, ↓reduceIte, reduceCtorEq, Int.reduceBEq, Int.reduceBNe, Int.reduceLT, Int.reduceLE, Int.reduceGT, Int.reduceGE, Int.reduceNeg, Int.reduceAdd, Int.reduceSub, Nat.reduceMul, Nat.reduceLT, Int.reduceToNat, t2, t3, t9, t10, t11, hg0, hg1, fun H => q1.alen H, hltJ, hixa, hixb, hle0, hld0, hle1, hld1, hme0, hmd0, hme1, hmd1, c1, c2, w4]
              exact ⟨by simp, true, rfl, by rw [hq]; rfl⟩
            · rw [decide_eq_false c2] at hq
              simp -implicitDefEqProofs only [go_sem, Nat.reduceEqDiff, Nat.reduceAdd, Nat.reduceLeDiff, ↓reduceIte, reduceCtorEq, Int.reduceBEq, Int.reduceBNe, Int.reduceLT, Int.reduceLE, Int.reduceGT, Int.reduceGE, Int.reduceNeg, Int.reduceAdd, Int.reduceSub, Nat.reduceMul, Nat.reduceLT, Int.reduceToNat, t2, t3, t9, t10, t11, hg0, hg1, fun H => q1.alen H, hltJ, hixa, hixb, hle0, hld0, hle1, hld1, hme0, hmd0, hme1, hmd1, c1, c2, w4]
              exact ⟨by simp, false, rfl, by rw [hq]; rfl⟩
      · rintro ⟨tm, H6⟩ ⟨t2, t3, hh, t9, t11, m, t10, hq⟩
        simp only at t2 t3 t9 t10 t11 hh
        subst hh
        rw [List.drop_length] at hq
        simp -implicitDefEqProofs only [go_sem, Nat.reduceEqDiff, Nat.reduceAdd, Nat.reduceLeDiff, ↓reduceIte, reduceCtorEq, Int.reduceBEq, Int.reduceBNe, Int.reduceLT, Int.reduceLE, Int.reduceGT, Int.reduceGE, Int.reduceNeg, Int.reduceAdd, Int.reduceSub, Nat.reduceMul, Nat.reduceLT, Int.reduceToNat, t2, t3, t9, t10, t11, hg1, fun H => q1.alen H, Int.lt_irrefl]
        rw [hq]; cases m <;> rfl
    rintro ⟨tm, H6⟩ ⟨t2, t3, hh, t9, t10⟩
    simp only at t2 t3 t9 t10 hh
    subst hh
    cases c : anyLe a.vars[i] b.vars with
    | true =>
      rw [c] at hr
      simp -implicitDefEqProofs only [go_sem, Nat.reduceEqDiff, Nat.reduceAdd, Nat.reduceLeDiff, ↓reduceIte, reduceCtorEq, Int.reduceBEq, Int.reduceBNe, Int.reduceLT, Int.reduceLE, Int.reduceGT, Int.reduceGE, Int.reduceNeg, Int.reduceAdd, Int.reduceSub, Nat.reduceMul, Nat.reduceLT, Int.reduceToNat, t9, t10, c, w3]
      exact ⟨t2, t3, by simp, by rw [hr]; rfl⟩
    | false =>
      rw [c] at hr
      simp -implicitDefEqProofs only [go_sem, Nat.reduceEqDiff, Nat.reduceAdd, Nat.reduceLeDiff, ↓reduceIte, reduceCtorEq, Int.reduceBEq, Int.reduceBNe, Int.reduceLT, Int.reduceLE, Int.reduceGT, Int.reduceGE, Int.reduceNeg, Int.reduceAdd, Int.reduceSub, Nat.reduceMul, Nat.reduceLT, Int.reduceToNat, t9, t10, c]
      exact ⟨by rw [hr]; rfl, hE0⟩
  · rintro ⟨tm, H5⟩ ⟨t2, t3, hh, t9, hr⟩
    simp only at t2 t3 t9 hh
    subst hh
    rw [List.drop_length] at hr
    simp -implicitDefEqProofs only [go_sem, Nat.reduceEqDiff, Nat.reduceAdd, Nat.reduceLeDiff, ↓reduceIte, reduceCtorEq, Int.reduceBEq, Int.reduceBNe, Int.reduceLT, Int.reduceLE, Int.reduceGT, Int.reduceGE, Int.reduceNeg, Int.reduceAdd, Int.reduceSub, Nat.reduceMul, Nat.reduceLT, Int.reduceToNat, t2, t3, t9, hg0, fun H => p1.alen H, Int.lt_irrefl]
    exact ⟨by rw [hr]; rfl, hE0⟩

set_option maxRecDepth 100000 in
theorem sameLevel_ok (a b : Lv) (ax bx : AV) (ca cb : List AV) (ha1 : SlR a.vars.length ax ca) (ha2 : VarsR a.vars ca) (hb1 : SlR b.vars.length bx cb) (hb2 : VarsR b.vars cb) (hca : canF a = true) (hcb : canF b = true) (H : AHeap) :
    SCall Try.prog 142 [.agg [aint a.n, ax], .agg [aint b.n, bx]] H fun x H' => x = abl (lvEq a b) ∧ H' = H := by
  refine SCall.val (SCall.intro mixed cf142 ?_)
  have e1 : ¬ H.next = H.next + 1 := by omega
  have e2 : ¬ H.next + 1 = H.next := by omega
  rw [← leq_both hca hcb]
  simp -implicitDefEqProofs only [c142, go_sem, Nat.reduceEqDiff, Nat.reduceAdd, Nat.reduceLeDiff, ↓reduceIte, reduceCtorEq, Int.reduceBEq, Int.reduceBNe, Int.reduceLT, Int.reduceLE, Int.reduceGT, Int.reduceGE, Int.reduceNeg, Int.reduceAdd, Int.reduceSub, Nat.reduceMul, Nat.reduceLT, Int.reduceToNat, ha1.one, ha1.cells, hb1.one, hb1.cells, e1, e2]
  refine i_callA (fs := []) (cs := []) ?_ ?_ (leq_ok a b ax bx ca cb ha1 ha2 hb1 hb2 hca hcb _) ?_
  · rfl
  · simp -implicitDefEqProofs only [go_sem, Nat.reduceEqDiff, Nat.reduceAdd, Nat.reduceLeDiff, ↓reduceIte, reduceCtorEq, Int.reduceBEq, Int.reduceBNe, Int.reduceLT, Int.reduceLE, Int.reduceGT, Int.reduceGE, Int.reduceNeg, Int.reduceAdd, Int.reduceSub, Nat.reduceMul, Nat.reduceLT, Int.reduceToNat]
  rintro x H3 ⟨rfl, rfl⟩
  cases hl : leqF a b with
  | false =>
    simp -implicitDefEqProofs only [go_sem, Nat.reduceEqDiff, Nat.reduceAdd, Nat.reduceLeDiff, ↓reduceIte, reduceCtorEq, Int.reduceBEq, Int.reduceBNe, Int.reduceLT, Int.reduceLE, Int.reduceGT, Int.reduceGE, Int.reduceNeg, Int.reduceAdd, Int.reduceSub, Nat.reduceMul, Nat.reduceLT, Int.reduceToNat]
    exact ⟨rfl, ((Ext.refl H).new _).new _⟩
  | true =>
    simp -implicitDefEqProofs only [go_sem, Nat.reduceEqDiff, Nat.reduceAdd, Nat.reduceLeDiff, ↓reduceIte, reduceCtorEq, Int.reduceBEq, Int.reduceBNe, Int.reduceLT, Int.reduceLE, Int.reduceGT, Int.reduceGE, Int.reduceNeg, Int.reduceAdd, Int.reduceSub, Nat.reduceMul, Nat.reduceLT, Int.reduceToNat, e1, e2]
    refine i_callA (fs := []) (cs := []) ?_ ?_ (leq_ok b a bx ax cb ca hb1 hb2 ha1 ha2 hcb hca _) ?_
    · rfl
    · simp -implicitDefEqProofs only [go_sem, Nat.reduceEqDiff, Nat.reduceAdd, Nat.reduceLeDiff, ↓reduceIte, reduceCtorEq, Int.reduceBEq, Int.reduceBNe, Int.reduceLT, Int.reduceLE, Int.reduceGT, Int.reduceGE, Int.reduceNeg, Int.reduceAdd, Int.reduceSub, Nat.reduceMul, Nat.reduceLT, Int.reduceToNat]
    rintro x H3 ⟨rfl, rfl⟩
    simp -implicitDefEqProofs only [go_sem, Nat.reduceEqDiff, Nat.reduceAdd, Nat.reduceLeDiff, ↓reduceIte, reduceCtorEq, Int.reduceBEq, Int.reduceBNe, Int.reduceLT, Int.reduceLE, Int.reduceGT, Int.reduceGE, Int.reduceNeg, Int.reduceAdd, Int.reduceSub, Nat.reduceMul, Nat.reduceLT, Int.reduceToNat, Bool.true_and]
    exact ((Ext.refl H).new _).new _
end Go.Proofs.Ytooaiddfokbffaa.E

/- Whether two terms are one, as the code and the reference ask it. Conditions: none. -/
set_option linter.unusedVariables false
set_option linter.unusedSimpArgs false
namespace Go.Proofs.Ytooaiddfokbffaa.E
open Go Go.Proofs
attribute [local go_sem] s_seq s_ops s_draw s_block s_skip s_ret s_exit i_nil i_cons i_run i_runG s_condQ c_true c_false aop ev_t ev_c updO_at updO_no upd_at t_normal t_ret t_exit b_normal b_ret b_exit a_some ac_v ac_agg ac_ptr ac_slc ac_ro ac_rop ac_fn new_next set_next argTm_zero argTm_succ argTm_nil ab_bool ab_uv beq_self_eq_true Option.some_beq_some Bool.not_not beq_iff_eq decide_true decide_false Bool.not_true Bool.not_false afld aload astore apack alen_str alen_ro alen_slc alen_nil new_get set_get ite_true ite_false Option.map_some Option.bind_some ibin isShift Nat.add_zero Nat.zero_add List.length_cons List.length_nil List.drop_zero List.drop_succ_cons List.take_succ_cons List.take_zero if_true if_false setL List.set_cons_zero List.set_cons_succ List.all_cons List.all_nil one_int one_bool one_str one_nil one_ptr one_slc one_ro one_rop one_fn Bool.and_self Bool.and_true true_and and_true and_self Bool.false_eq_true post_ret post_normal resAll resOne packR Option.some.injEq exists_eq_left' List.map_cons List.map_nil List.nil_append List.append_nil List.cons_append d_nil d_cons k_nil k_cons g_op g_same g_new avBlock forall_eq' List.getElem?_cons_succ List.getElem?_cons_zero List.getElem?_nil okind gOk bne false_imp_iff forall_const imp_self implies_true true_imp_iff i_callG

def lvsEq : List Lv → List Lv → Bool
  | [], [] => true
  | x :: a, y :: b => lvEq x y && lvsEq a b
  | _, _ => false
theorem lvsEq_len : ∀ {a b : List Lv}, ¬ a.length = b.length → lvsEq a b = false
  | [], [], h => absurd rfl h
  | [], _ :: _, _ => rfl
  | _ :: _, [], _ => rfl
  | x :: a, y :: b, h => by
    rw [lvsEq, lvsEq_len (by simpa using h), Bool.and_false]
theorem lvsEq_step {a b : List Lv} {i : Nat} (hi : i < a.length) (hj : i < b.length) : lvsEq (a.drop i) (b.drop i) = (lvEq a[i] b[i] && lvsEq (a.drop (i + 1)) (b.drop (i + 1))) := by
  rw [List.drop_eq_getElem_cons hi, List.drop_eq_getElem_cons hj]; rfl

set_option maxRecDepth 100000 in
theorem sameLevels_ok (a b : List Lv) (ax bx : AV) (ca cb : List AV) (ha1 : SlR a.length ax ca) (ha2 : LvsR a ca) (hb1 : SlR b.length bx cb) (hb2 : LvsR b cb) (hna : a.length ≤ 4611686018427387904) (hn : ∀ l ∈ a, l.vars.length ≤ 4611686018427387904) (H : AHeap) :
    SCall Try.prog 141 [ax, bx] H fun x H' => x = abl (lvsEq a b) ∧ H' = H := by
  refine SCall.val (SCall.intro mixed cf141 ?_)
  by_cases hl : a.length = b.length
  case neg =>
    have h1 : ((a.length : Int) == (b.length : Int)) = false := by rw [beq_eq_false_iff_ne]; omega
    simp -implicitDefEqProofs only [c141, go_sem, Nat.reduceEqDiff, Nat.reduceAdd, Nat.reduceLeDiff, ↓reduceIte, reduceCtorEq, Int.reduceBEq, Int.reduceBNe, Int.reduceLT, Int.reduceLE, Int.reduceGT, Int.reduceGE, Int.reduceNeg, Int.reduceAdd, Int.reduceSub, Nat.reduceMul, Nat.reduceLT, Int.reduceToNat, fun H => ha1.alen H, fun H => hb1.alen H, h1]
    exact ⟨by rw [lvsEq_len hl], Ext.refl H⟩
  have h1 : ((a.length : Int) == (b.length : Int)) = true := by rw [beq_iff_eq]; omega
  simp -implicitDefEqProofs only [c141, go_sem, Nat.reduceEqDiff, Nat.reduceAdd, Nat.reduceLeDiff, ↓reduceIte, reduceCtorEq, Int.reduceBEq, Int.reduceBNe, Int.reduceLT, Int.reduceLE, Int.reduceGT, Int.reduceGE, Int.reduceNeg, Int.reduceAdd, Int.reduceSub, Nat.reduceMul, Nat.reduceLT, Int.reduceToNat, fun H => ha1.alen H, fun H => hb1.alen H, h1]
  refine swp_range a.length (fun i st => st.tm 0 = ax ∧ st.tm 1 = bx ∧ st.tm 12 = aint a.length ∧ st.tm 13 = aint i ∧ st.heap = H ∧ lvsEq a b = lvsEq (a.drop i) (b.drop i)) ?_ ?_ ?_
  · exact ⟨rfl, rfl, rfl, rfl, rfl, by simp⟩
  · rintro i ⟨tm, H2⟩ hi ⟨t0, t1, t12, t13, hh, hr⟩
    simp only at t0 t1 t12 t13 hh
    subst hh
    have hltI : (i : Int) < (a.length : Int) := by omega
    have hixa := ha1.aix 2 hi
    have hixb := hb1.aix 2 (i := i) (by omega)
    obtain ⟨vx, vs, hle, hld, hv1, hv2⟩ := ha2.at (List.getElem?_eq_getElem hi)
    obtain ⟨wx, ws, hle', hld', hw1, hw2⟩ := hb2.at (List.getElem?_eq_getElem (i := i) (l := b) (by omega))
    have q0 : (ca.drop (i * 2)).take 1 = [aint a[i].n] := by
      have := congrArg (List.take 1) hld
      simpa [List.take_take] using this
    have q1 : (ca.drop (i * 2 + 1)).take 1 = [vx] := by
      have := congrArg (fun q => (q.drop 1).take 1) hld
      simpa [List.drop_take, List.drop_drop, List.take_take] using this
    have r0 : (cb.drop (i * 2)).take 1 = [aint b[i].n] := by
      have := congrArg (List.take 1) hld'
      simpa [List.take_take] using this
    have r1 : (cb.drop (i * 2 + 1)).take 1 = [wx] := by
      have := congrArg (fun q => (q.drop 1).take 1) hld'
      simpa [List.drop_take, List.drop_drop, List.take_take] using this
    have l0 : i * 2 + 1 ≤ ca.length := by omega
    have l1 : i * 2 + 1 + 1 ≤ ca.length := by omega
    have m0 : i * 2 + 1 ≤ cb.length := by omega
    have m1 : i * 2 + 1 + 1 ≤ cb.length := by omega
    have w3 : IntKind.i64.wrap ((i : Int) + 1) = (i : Int) + 1 := i64_ok _ (by omega)
    rw [lvsEq_step hi (by omega)] at hr
    cases hn' : (a[i].n == b[i].n) with
    | false =>
      simp -implicitDefEqProofs only [go_sem, Nat.reduceEqDiff, Nat.reduceAdd, Nat.reduceLeDiff, ↓reduceIte, reduceCtorEq, Int.reduceBEq, Int.reduceBNe, Int.reduceLT, Int.reduceLE, Int.reduceGT, Int.reduceGE, Int.reduceNeg, Int.reduceAdd, Int.reduceSub, Nat.reduceMul, Nat.reduceLT, Int.reduceToNat, t0, t1, t12, t13, hltI, hixa, hixb, q0, r0, l0, m0, hn']
      exact ⟨by rw [hr, lvEq, hn']; rfl, Ext.refl _⟩
    | true =>
      simp -implicitDefEqProofs only [go_sem, Nat.reduceEqDiff, Nat.reduceAdd, Nat.reduceLeDiff, ↓reduceIte, reduceCtorEq, Int.reduceBEq, Int.reduceBNe, Int.reduceLT, Int.reduceLE, Int.reduceGT, Int.reduceGE, Int.reduceNeg, Int.reduceAdd, Int.reduceSub, Nat.reduceMul, Nat.reduceLT, Int.reduceToNat, t0, t1, t12, t13, hltI, hixa, hixb, q0, r0, l0, m0, q1, r1, l1, m1, hn']
      refine i_callA (fs := []) (cs := []) ?_ ?_ (equal_ok a[i].vars b[i].vars vx wx vs ws hv1 hv2 hw1 hw2 (hn _ (List.getElem_mem hi)) _) ?_
      · rfl
      · simp -implicitDefEqProofs only [go_sem, Nat.reduceEqDiff, Nat.reduceAdd, Nat.reduceLeDiff, ↓reduceIte, reduceCtorEq, Int.reduceBEq, Int.reduceBNe, Int.reduceLT, Int.reduceLE, Int.reduceGT, Int.reduceGE, Int.reduceNeg, Int.reduceAdd, Int.reduceSub, Nat.reduceMul, Nat.reduceLT, Int.reduceToNat]
      rintro x H3 ⟨rfl, rfl⟩
      by_cases hv : a[i].vars = b[i].vars
      · rw [decide_eq_true hv]
        simp -implicitDefEqProofs only [go_sem, Nat.reduceEqDiff, Nat.reduceAdd, Nat.reduceLeDiff, ↓reduceIte, reduceCtorEq, Int.reduceBEq, Int.reduceBNe, Int.reduceLT, Int.reduceLE, Int.reduceGT, Int.reduceGE, Int.reduceNeg, Int.reduceAdd, Int.reduceSub, Nat.reduceMul, Nat.reduceLT, Int.reduceToNat, t13, w3]
        exact ⟨t0, t1, t12, by simp, by rw [hr, lvEq, hn', decide_eq_true hv]; rfl⟩
      · rw [decide_eq_false hv]
        simp -implicitDefEqProofs only [go_sem, Nat.reduceEqDiff, Nat.reduceAdd, Nat.reduceLeDiff, ↓reduceIte, reduceCtorEq, Int.reduceBEq, Int.reduceBNe, Int.reduceLT, Int.reduceLE, Int.reduceGT, Int.reduceGE, Int.reduceNeg, Int.reduceAdd, Int.reduceSub, Nat.reduceMul, Nat.reduceLT, Int.reduceToNat]
        exact ⟨by rw [hr, lvEq, hn', decide_eq_false hv]; rfl, Ext.refl _⟩
  · rintro ⟨tm, H2⟩ ⟨t0, t1, t12, t13, hh, hr⟩
    simp only at t0 t1 t12 t13 hh
    subst hh
    simp -implicitDefEqProofs only [go_sem, Nat.reduceEqDiff, Nat.reduceAdd, Nat.reduceLeDiff, ↓reduceIte, reduceCtorEq, Int.reduceBEq, Int.reduceBNe, Int.reduceLT, Int.reduceLE, Int.reduceGT, Int.reduceGE, Int.reduceNeg, Int.reduceAdd, Int.reduceSub, Nat.reduceMul, Nat.reduceLT, Int.reduceToNat, t12, t13, Int.lt_irrefl]
    exact ⟨by rw [hr, List.drop_length, hl, List.drop_length]; rfl, Ext.refl _⟩

/-- The fields that a form has. -/
def fieldsEq (f : Int) (n n' : Int) (h h' : Bool) (s s' : ByteArray) (l l' : List Lv) : Bool :=
  if f = 1 ∨ f = 11 then n == n' else if f = 3 ∨ f = 4 ∨ f = 5 then h == h' else if f = 2 then lvsEq l l' else if f = 10 then sameS s s' && lvsEq l l' else true
mutual
def sameT : Tm → Tm → Bool
  | .mk f n h s lv ks, b => if f = b.form ∧ ks.length = b.kids.length then fieldsEq f n b.n h b.hid s b.name lv b.lv && sameK ks b.kids else false
def sameK : List Tm → List Tm → Bool
  | [], _ => true
  | k :: r, [] => false
  | k :: r, q :: t => sameT k q && sameK r t
end

theorem sameK_step {a b : List Tm} {i : Nat} (hi : i < a.length) (hj : i < b.length) : sameK (a.drop i) (b.drop i) = (sameT a[i] b[i] && sameK (a.drop (i + 1)) (b.drop (i + 1))) := by
  rw [List.drop_eq_getElem_cons hi, List.drop_eq_getElem_cons hj]; rfl

set_option maxRecDepth 100000 in
theorem rawSame_ok : ∀ a, Tm.All TmB a → ∀ (b : Tm) (ac bc : List AV), TmR a ac → TmR b bc → ∀ (H : AHeap), SCall Try.prog 96 [.agg ac, .agg bc, abl true] H fun x H' => x = abl (sameT a b) ∧ H' = H := by
  refine Tm.rule fun f n hid s lv ks ih ha b ac bc hA hB H => ?_
  obtain ⟨f', n', hid', s', lv', ks'⟩ := b
  obtain ⟨lx, kx, ls, cs, rfl, hl1, hl2, hk1, hk2⟩ := hA.six
  obtain ⟨lx', kx', ls', cs', rfl, hl1', hl2', hk1', hk2'⟩ := hB.six
  simp only [Tm.All, TmB, Tm.form, Tm.n, Tm.hid, Tm.name, Tm.lv, Tm.kids] at *
  obtain ⟨⟨_, _, a1, a2, a3, a4⟩, a5⟩ := ha
  have hlvb : ∀ l ∈ lv, l.vars.length ≤ 4611686018427387904 := fun l hl => by have := (a4 l hl).2.1; omega
  have hsame : sameT (.mk f n hid s lv ks) (.mk f' n' hid' s' lv' ks') = if f = f' ∧ ks.length = ks'.length then fieldsEq f n n' hid hid' s s' lv lv' && sameK ks ks' else false := rfl
  refine SCall.val (SCall.intro mixed cf96 ?_)
  rw [hsame]
  have e1 : ¬ H.next = H.next + 1 := by omega
  have e2 : ¬ H.next + 1 = H.next := by omega
  have hE0 : ∀ o1 o2, Ext H ((H.new o1).new o2) := fun o1 o2 => ((Ext.refl H).new _).new _
  by_cases hf : f = f'
  case neg =>
    simp -implicitDefEqProofs only [c96, go_sem, Nat.reduceEqDiff, Nat.reduceAdd, Nat.reduceLeDiff, ↓reduceIte, reduceCtorEq, Int.reduceBEq, Int.reduceBNe, Int.reduceLT, Int.reduceLE, Int.reduceGT, Int.reduceGE, Int.reduceNeg, Int.reduceAdd, Int.reduceSub, Nat.reduceMul, Nat.reduceLT, Int.reduceToNat, hl1.one, hl1.cells, hk1.one, hk1.cells, hl1'.one, hl1'.cells, hk1'.one, hk1'.cells, e1, e2, bne' hf]
    exact ⟨by rw [if_neg (fun h => hf h.1)], hE0 _ _⟩
  by_cases hkl : ks.length = ks'.length
  case neg =>
    have hkb : ((ks.length : Int) == (ks'.length : Int)) = false := by rw [beq_eq_false_iff_ne]; omega
    have hfb : (f == f') = true := by simpa using hf
    simp -implicitDefEqProofs only [c96, go_sem, Nat.reduceEqDiff, Nat.reduceAdd, Nat.reduceLeDiff, ↓reduceIte, reduceCtorEq, Int.reduceBEq, Int.reduceBNe, Int.reduceLT, Int.reduceLE, Int.reduceGT, Int.reduceGE, Int.reduceNeg, Int.reduceAdd, Int.reduceSub, Nat.reduceMul, Nat.reduceLT, Int.reduceToNat, hl1.one, hl1.cells, hk1.one, hk1.cells, hl1'.one, hl1'.cells, hk1'.one, hk1'.cells, e1, e2, hfb, hkb, fun H => hk1.alen H, fun H => hk1'.alen H]
    exact ⟨by rw [if_neg (fun h => hkl h.2)], hE0 _ _⟩
  have hkb : ((ks.length : Int) == (ks'.length : Int)) = true := by rw [beq_iff_eq]; omega
  have hfb : (f == f') = true := by simpa using hf
  rw [if_pos ⟨hf, hkl⟩]
  simp -implicitDefEqProofs only [c96, s_seq, s_ops, s_draw, s_skip, s_ret, s_exit, i_nil, i_cons, i_run, i_runG, s_condQ, c_true, c_false, aop, ev_t, ev_c, updO_at, updO_no, upd_at, t_normal, t_ret, t_exit, b_normal, b_ret, b_exit, a_some, ac_v, ac_agg, ac_ptr, ac_slc, ac_ro, ac_rop, ac_fn, new_next, set_next, argTm_zero, argTm_succ, argTm_nil, ab_bool, ab_uv, beq_self_eq_true, Option.some_beq_some, Bool.not_not, beq_iff_eq, decide_true, decide_false, Bool.not_true, Bool.not_false, afld, aload, astore, apack, alen_str, alen_ro, alen_slc, alen_nil, new_get, set_get, ite_true, ite_false, Option.map_some, Option.bind_some, ibin, isShift, Nat.reduceEqDiff, Nat.add_zero, Nat.zero_add, List.length_cons, List.length_nil, Nat.reduceAdd, Nat.reduceLeDiff, List.drop_zero, List.drop_succ_cons, List.take_succ_cons, List.take_zero, if_true, if_false, ↓reduceIte, reduceCtorEq, setL, List.set_cons_zero, List.set_cons_succ, List.all_cons, List.all_nil, one_int, one_bool, one_str, one_nil, one_ptr, one_slc, one_ro, one_rop, one_fn, Bool.and_self, Bool.and_true, true_and, and_true, and_self, Bool.false_eq_true, post_ret, post_normal, resAll, resOne, packR, Option.some.injEq, exists_eq_left', List.map_cons, List.map_nil, List.nil_append, List.append_nil, List.cons_append, d_nil, d_cons, k_nil, k_cons, g_op, g_same, g_new, avBlock, forall_eq', List.getElem?_cons_succ, List.getElem?_cons_zero, List.getElem?_nil, okind, gOk, Int.reduceBEq, Int.reduceBNe, Int.reduceLT, Int.reduceLE, Int.reduceGT, Int.reduceGE, Int.reduceNeg, Int.reduceAdd, Int.reduceSub, bne, false_imp_iff, forall_const, imp_self, implies_true, true_imp_iff, Nat.reduceMul, Nat.reduceLT, Int.reduceToNat, i_callG, hl1.one, hl1.cells, hk1.one, hk1.cells, hl1'.one, hl1'.cells, hk1'.one, hk1'.cells, e1, e2, hfb, hkb, fun H => hk1.alen H, fun H => hk1'.alen H]
  generalize hG : ((H.new (.cells [aint f, aint n, abl hid, .v (.string s), lx, kx])).new (.cells [aint f', aint n', abl hid', .v (.string s'), lx', kx'])) = G
  have hE : Ext H G := by rw [← hG]; exact hE0 _ _
  have hg0 : G.get H.next = some (.cells [aint f, aint n, abl hid, .v (.string s), lx, kx]) := by rw [← hG]; simp -implicitDefEqProofs only [go_sem, Nat.reduceEqDiff, Nat.reduceAdd, Nat.reduceLeDiff, ↓reduceIte, reduceCtorEq, Int.reduceBEq, Int.reduceBNe, Int.reduceLT, Int.reduceLE, Int.reduceGT, Int.reduceGE, Int.reduceNeg, Int.reduceAdd, Int.reduceSub, Nat.reduceMul, Nat.reduceLT, Int.reduceToNat, e1]
  have hg1 : G.get (H.next + 1) = some (.cells [aint f', aint n', abl hid', .v (.string s'), lx', kx']) := by rw [← hG]; simp -implicitDefEqProofs only [go_sem, Nat.reduceEqDiff, Nat.reduceAdd, Nat.reduceLeDiff, ↓reduceIte, reduceCtorEq, Int.reduceBEq, Int.reduceBNe, Int.reduceLT, Int.reduceLE, Int.reduceGT, Int.reduceGE, Int.reduceNeg, Int.reduceAdd, Int.reduceSub, Nat.reduceMul, Nat.reduceLT, Int.reduceToNat]
  refine cutB (M := fun st => st.tm 2 = abl true ∧ st.tm 3 = .ptr H.next 0 ∧ st.tm 4 = .ptr (H.next + 1) 0 ∧ st.heap = G ∧ fieldsEq f n n' hid hid' s s' lv lv' = true) ?_ ?_
  · by_cases c1 : f = 1 ∨ f = 11
    · have hfe : fieldsEq f n n' hid hid' s s' lv lv' = (n == n') := by simp only [fieldsEq, if_pos c1]
      rw [hfe]
      cases hq : (n == n') with
      | true => rcases c1 with rfl | rfl <;> (simp -implicitDefEqProofs only [go_sem, Nat.reduceEqDiff, Nat.reduceAdd, Nat.reduceLeDiff, ↓reduceIte, reduceCtorEq, Int.reduceBEq, Int.reduceBNe, Int.reduceLT, Int.reduceLE, Int.reduceGT, Int.reduceGE, Int.reduceNeg, Int.reduceAdd, Int.reduceSub, Nat.reduceMul, Nat.reduceLT, Int.reduceToNat, hg0, hg1, hq])
      | false =>
        rcases c1 with rfl | rfl
        · simp -implicitDefEqProofs only [go_sem, Nat.reduceEqDiff, Nat.reduceAdd, Nat.reduceLeDiff, ↓reduceIte, reduceCtorEq, Int.reduceBEq, Int.reduceBNe, Int.reduceLT, Int.reduceLE, Int.reduceGT, Int.reduceGE, Int.reduceNeg, Int.reduceAdd, Int.reduceSub, Nat.reduceMul, Nat.reduceLT, Int.reduceToNat, hg0, hg1, hq]; exact ⟨by simp, hE⟩
        · simp -implicitDefEqProofs only [go_sem, Nat.reduceEqDiff, Nat.reduceAdd, Nat.reduceLeDiff, ↓reduceIte, reduceCtorEq, Int.reduceBEq, Int.reduceBNe, Int.reduceLT, Int.reduceLE, Int.reduceGT, Int.reduceGE, Int.reduceNeg, Int.reduceAdd, Int.reduceSub, Nat.reduceMul, Nat.reduceLT, Int.reduceToNat, hg0, hg1, hq]; exact ⟨by simp, hE⟩
    have n1 : ¬ f = 1 := fun h => c1 (.inl h)
    have n11 : ¬ f = 11 := fun h => c1 (.inr h)
    by_cases c2 : f = 3 ∨ f = 4 ∨ f = 5
    · have hfe : fieldsEq f n n' hid hid' s s' lv lv' = (hid == hid') := by simp only [fieldsEq, if_neg c1, if_pos c2]
      rw [hfe]
      cases hq : (hid == hid') with
      | true => rcases c2 with rfl | rfl | rfl <;> (simp -implicitDefEqProofs only [go_sem, Nat.reduceEqDiff, Nat.reduceAdd, Nat.reduceLeDiff, ↓reduceIte, reduceCtorEq, Int.reduceBEq, Int.reduceBNe, Int.reduceLT, Int.reduceLE, Int.reduceGT, Int.reduceGE, Int.reduceNeg, Int.reduceAdd, Int.reduceSub, Nat.reduceMul, Nat.reduceLT, Int.reduceToNat, hg0, hg1, hq])
      | false =>
        rcases c2 with rfl | rfl | rfl
        · simp -implicitDefEqProofs only [go_sem, Nat.reduceEqDiff, Nat.reduceAdd, Nat.reduceLeDiff, ↓reduceIte, reduceCtorEq, Int.reduceBEq, Int.reduceBNe, Int.reduceLT, Int.reduceLE, Int.reduceGT, Int.reduceGE, Int.reduceNeg, Int.reduceAdd, Int.reduceSub, Nat.reduceMul, Nat.reduceLT, Int.reduceToNat, hg0, hg1, hq]; exact ⟨by simp, hE⟩
        · simp -implicitDefEqProofs only [go_sem, Nat.reduceEqDiff, Nat.reduceAdd, Nat.reduceLeDiff, ↓reduceIte, reduceCtorEq, Int.reduceBEq, Int.reduceBNe, Int.reduceLT, Int.reduceLE, Int.reduceGT, Int.reduceGE, Int.reduceNeg, Int.reduceAdd, Int.reduceSub, Nat.reduceMul, Nat.reduceLT, Int.reduceToNat, hg0, hg1, hq]; exact ⟨by simp, hE⟩
        · simp -implicitDefEqProofs only [go_sem, Nat.reduceEqDiff, Nat.reduceAdd, Nat.reduceLeDiff, ↓reduceIte, reduceCtorEq, Int.reduceBEq, Int.reduceBNe, Int.reduceLT, Int.reduceLE, Int.reduceGT, Int.reduceGE, Int.reduceNeg, Int.reduceAdd, Int.reduceSub, Nat.reduceMul, Nat.reduceLT, Int.reduceToNat, hg0, hg1, hq]; exact ⟨by simp, hE⟩
    have n3 : ¬ f = 3 := fun h => c2 (.inl h)
    have n4 : ¬ f = 4 := fun h => c2 (.inr (.inl h))
    have n5 : ¬ f = 5 := fun h => c2 (.inr (.inr h))
    by_cases c3 : f = 2
    · subst c3
      have hfe : fieldsEq 2 n n' hid hid' s s' lv lv' = lvsEq lv lv' := rfl
      rw [hfe]
      simp -implicitDefEqProofs only [go_sem, Nat.reduceEqDiff, Nat.reduceAdd, Nat.reduceLeDiff, ↓reduceIte, reduceCtorEq, Int.reduceBEq, Int.reduceBNe, Int.reduceLT, Int.reduceLE, Int.reduceGT, Int.reduceGE, Int.reduceNeg, Int.reduceAdd, Int.reduceSub, Nat.reduceMul, Nat.reduceLT, Int.reduceToNat, hg0, hg1]
      refine i_callA (fs := []) (cs := []) ?_ ?_ (sameLevels_ok lv lv' lx lx' ls ls' hl1 hl2 hl1' hl2' (by omega) hlvb _) ?_
      · rfl
      · simp -implicitDefEqProofs only [go_sem, Nat.reduceEqDiff, Nat.reduceAdd, Nat.reduceLeDiff, ↓reduceIte, reduceCtorEq, Int.reduceBEq, Int.reduceBNe, Int.reduceLT, Int.reduceLE, Int.reduceGT, Int.reduceGE, Int.reduceNeg, Int.reduceAdd, Int.reduceSub, Nat.reduceMul, Nat.reduceLT, Int.reduceToNat]
      rintro x H3 ⟨rfl, rfl⟩
      cases hq : lvsEq lv lv' with
      | true => simp -implicitDefEqProofs only [go_sem, Nat.reduceEqDiff, Nat.reduceAdd, Nat.reduceLeDiff, ↓reduceIte, reduceCtorEq, Int.reduceBEq, Int.reduceBNe, Int.reduceLT, Int.reduceLE, Int.reduceGT, Int.reduceGE, Int.reduceNeg, Int.reduceAdd, Int.reduceSub, Nat.reduceMul, Nat.reduceLT, Int.reduceToNat]
      | false => simp -implicitDefEqProofs only [go_sem, Nat.reduceEqDiff, Nat.reduceAdd, Nat.reduceLeDiff, ↓reduceIte, reduceCtorEq, Int.reduceBEq, Int.reduceBNe, Int.reduceLT, Int.reduceLE, Int.reduceGT, Int.reduceGE, Int.reduceNeg, Int.reduceAdd, Int.reduceSub, Nat.reduceMul, Nat.reduceLT, Int.reduceToNat]; exact ⟨by simp, hE⟩
    by_cases c4 : f = 10
    · subst c4
      have hfe : fieldsEq 10 n n' hid hid' s s' lv lv' = (sameS s s' && lvsEq lv lv') := rfl
      rw [hfe]
      cases hs : sameS s s' with
      | false =>
        have hs' : (s.data.toList == s'.data.toList) = false := hs
        simp -implicitDefEqProofs only [go_sem, Nat.reduceEqDiff, Nat.reduceAdd, Nat.reduceLeDiff, ↓reduceIte, reduceCtorEq, Int.reduceBEq, Int.reduceBNe, Int.reduceLT, Int.reduceLE, Int.reduceGT, Int.reduceGE, Int.reduceNeg, Int.reduceAdd, Int.reduceSub, Nat.reduceMul, Nat.reduceLT, Int.reduceToNat, hg0, hg1, sbin, hs']
        exact ⟨by simp, hE⟩
      | true =>
        have hs' : (s.data.toList == s'.data.toList) = true := hs
        simp -implicitDefEqProofs only [go_sem, Nat.reduceEqDiff, Nat.reduceAdd, Nat.reduceLeDiff, ↓reduceIte, reduceCtorEq, Int.reduceBEq, Int.reduceBNe, Int.reduceLT, Int.reduceLE, Int.reduceGT, Int.reduceGE, Int.reduceNeg, Int.reduceAdd, Int.reduceSub, Nat.reduceMul, Nat.reduceLT, Int.reduceToNat, hg0, hg1, sbin, hs']
        refine i_callA (fs := []) (cs := []) ?_ ?_ (sameLevels_ok lv lv' lx lx' ls ls' hl1 hl2 hl1' hl2' (by omega) hlvb _) ?_
        · rfl
        · simp -implicitDefEqProofs only [go_sem, Nat.reduceEqDiff, Nat.reduceAdd, Nat.reduceLeDiff, ↓reduceIte, reduceCtorEq, Int.reduceBEq, Int.reduceBNe, Int.reduceLT, Int.reduceLE, Int.reduceGT, Int.reduceGE, Int.reduceNeg, Int.reduceAdd, Int.reduceSub, Nat.reduceMul, Nat.reduceLT, Int.reduceToNat]
        rintro x H3 ⟨rfl, rfl⟩
        cases hq : lvsEq lv lv' with
        | true => simp -implicitDefEqProofs only [go_sem, Nat.reduceEqDiff, Nat.reduceAdd, Nat.reduceLeDiff, ↓reduceIte, reduceCtorEq, Int.reduceBEq, Int.reduceBNe, Int.reduceLT, Int.reduceLE, Int.reduceGT, Int.reduceGE, Int.reduceNeg, Int.reduceAdd, Int.reduceSub, Nat.reduceMul, Nat.reduceLT, Int.reduceToNat]
        | false => simp -implicitDefEqProofs only [go_sem, Nat.reduceEqDiff, Nat.reduceAdd, Nat.reduceLeDiff, ↓reduceIte, reduceCtorEq, Int.reduceBEq, Int.reduceBNe, Int.reduceLT, Int.reduceLE, Int.reduceGT, Int.reduceGE, Int.reduceNeg, Int.reduceAdd, Int.reduceSub, Nat.reduceMul, Nat.reduceLT, Int.reduceToNat]; exact ⟨by simp, hE⟩
    · have hfe : fieldsEq f n n' hid hid' s s' lv lv' = true := by simp only [fieldsEq, if_neg c1, if_neg c2, if_neg c3, if_neg c4]
      rw [hfe]
      simp -implicitDefEqProofs only [go_sem, Nat.reduceEqDiff, Nat.reduceAdd, Nat.reduceLeDiff, ↓reduceIte, reduceCtorEq, Int.reduceBEq, Int.reduceBNe, Int.reduceLT, Int.reduceLE, Int.reduceGT, Int.reduceGE, Int.reduceNeg, Int.reduceAdd, Int.reduceSub, Nat.reduceMul, Nat.reduceLT, Int.reduceToNat, bne' n1, bne' n11, bne' n3, bne' n4, bne' n5, bne' c3, bne' c4]
  rintro ⟨tm, H2⟩ ⟨t2, t3, t4, hh, hfe⟩
  simp only at t2 t3 t4 hh
  subst hh
  rw [hfe, Bool.true_and]
  simp -implicitDefEqProofs only [go_sem, Nat.reduceEqDiff, Nat.reduceAdd, Nat.reduceLeDiff, ↓reduceIte, reduceCtorEq, Int.reduceBEq, Int.reduceBNe, Int.reduceLT, Int.reduceLE, Int.reduceGT, Int.reduceGE, Int.reduceNeg, Int.reduceAdd, Int.reduceSub, Nat.reduceMul, Nat.reduceLT, Int.reduceToNat, t2, t3, t4, hg0, fun H => hk1.alen H]
  refine swp_range ks.length (fun i st => st.tm 2 = abl true ∧ st.tm 3 = .ptr H.next 0 ∧ st.tm 4 = .ptr (H.next + 1) 0 ∧ st.tm 69 = aint ks.length ∧ st.tm 70 = aint i ∧ st.heap = H2 ∧ sameK ks ks' = sameK (ks.drop i) (ks'.drop i)) ?_ ?_ ?_
  · refine ⟨?_, ?_, ?_, rfl, rfl, rfl, by simp⟩
    all_goals simp -implicitDefEqProofs only [go_sem, Nat.reduceEqDiff, Nat.reduceAdd, Nat.reduceLeDiff, ↓reduceIte, reduceCtorEq, Int.reduceBEq, Int.reduceBNe, Int.reduceLT, Int.reduceLE, Int.reduceGT, Int.reduceGE, Int.reduceNeg, Int.reduceAdd, Int.reduceSub, Nat.reduceMul, Nat.reduceLT, Int.reduceToNat, t2, t3, t4]
  · rintro i ⟨tm, H5⟩ hi ⟨t2, t3, t4, t69, t70, hh, hr⟩
    simp only at t2 t3 t4 t69 t70 hh
    subst hh
    have hltI : (i : Int) < (ks.length : Int) := by omega
    have hix := hk1.aix 6 hi
    have hix' := hk1'.aix 6 (i := i) (by omega)
    obtain ⟨kc, hkc, hle, hld⟩ := hk2.load (List.getElem?_eq_getElem hi)
    obtain ⟨kc', hkc', hle', hld'⟩ := hk2'.load (List.getElem?_eq_getElem (i := i) (l := ks') (by omega))
    have w3 : IntKind.i64.wrap ((i : Int) + 1) = (i : Int) + 1 := i64_ok _ (by omega)
    rw [sameK_step hi (by omega)] at hr
    simp -implicitDefEqProofs only [go_sem, Nat.reduceEqDiff, Nat.reduceAdd, Nat.reduceLeDiff, ↓reduceIte, reduceCtorEq, Int.reduceBEq, Int.reduceBNe, Int.reduceLT, Int.reduceLE, Int.reduceGT, Int.reduceGE, Int.reduceNeg, Int.reduceAdd, Int.reduceSub, Nat.reduceMul, Nat.reduceLT, Int.reduceToNat, t2, t3, t4, t69, t70, hg0, hg1, hltI, hix, hix', hle, hld, hle', hld']
    refine i_callA (fs := []) (cs := []) ?_ ?_ (ih ks[i] (List.getElem_mem hi) (a5.mem _ (List.getElem_mem hi)) ks'[i] _ _ hkc hkc' _) ?_
    · rfl
    · simp -implicitDefEqProofs only [go_sem, Nat.reduceEqDiff, Nat.reduceAdd, Nat.reduceLeDiff, ↓reduceIte, reduceCtorEq, Int.reduceBEq, Int.reduceBNe, Int.reduceLT, Int.reduceLE, Int.reduceGT, Int.reduceGE, Int.reduceNeg, Int.reduceAdd, Int.reduceSub, Nat.reduceMul, Nat.reduceLT, Int.reduceToNat, t2]
    rintro x H3 ⟨rfl, rfl⟩
    cases hq : sameT ks[i] ks'[i] with
    | true =>
      rw [hq, Bool.true_and] at hr
      simp -implicitDefEqProofs only [go_sem, Nat.reduceEqDiff, Nat.reduceAdd, Nat.reduceLeDiff, ↓reduceIte, reduceCtorEq, Int.reduceBEq, Int.reduceBNe, Int.reduceLT, Int.reduceLE, Int.reduceGT, Int.reduceGE, Int.reduceNeg, Int.reduceAdd, Int.reduceSub, Nat.reduceMul, Nat.reduceLT, Int.reduceToNat, t70, w3]
      exact ⟨t2, t3, t4, t69, by simp, hr⟩
    | false =>
      rw [hq, Bool.false_and] at hr
      simp -implicitDefEqProofs only [go_sem, Nat.reduceEqDiff, Nat.reduceAdd, Nat.reduceLeDiff, ↓reduceIte, reduceCtorEq, Int.reduceBEq, Int.reduceBNe, Int.reduceLT, Int.reduceLE, Int.reduceGT, Int.reduceGE, Int.reduceNeg, Int.reduceAdd, Int.reduceSub, Nat.reduceMul, Nat.reduceLT, Int.reduceToNat]
      exact ⟨by rw [hr], hE⟩
  · rintro ⟨tm, H5⟩ ⟨t2, t3, t4, t69, t70, hh, hr⟩
    simp only at t2 t3 t4 t69 t70 hh
    subst hh
    rw [List.drop_length, sameK] at hr
    simp -implicitDefEqProofs only [go_sem, Nat.reduceEqDiff, Nat.reduceAdd, Nat.reduceLeDiff, ↓reduceIte, reduceCtorEq, Int.reduceBEq, Int.reduceBNe, Int.reduceLT, Int.reduceLE, Int.reduceGT, Int.reduceGE, Int.reduceNeg, Int.reduceAdd, Int.reduceSub, Nat.reduceMul, Nat.reduceLT, Int.reduceToNat, t69, t70, Int.lt_irrefl]
    exact ⟨by rw [hr], hE⟩

def sameF (r : Lv → Bool) (a b : Tm) : Bool := if checkF r a = 0 ∧ checkF r b = 0 then sameT a b else false

set_option maxRecDepth 100000 in
theorem same_ok (a b : Tm) (ha : Tm.All TmB a) (hb : Tm.All TmB b) (fa : Tm.All (Fine canF) a) (fb : Tm.All (Fine canF) b) (ac bc : List AV) (hA : TmR a ac) (hB : TmR b bc) (H : AHeap) :
    SCall Try.prog 43 [.agg ac, .agg bc] H fun x H' => x = abl (sameF canF a b) ∧ H' = H := by
  have hA' := hA
  have hB' := hB
  obtain ⟨lx, kx, ls, cs, rfl, hl1, hl2, hk1, hk2⟩ := hA.six
  obtain ⟨lx', kx', ls', cs', rfl, hl1', hl2', hk1', hk2'⟩ := hB.six
  refine SCall.val (SCall.intro mixed cf43 ?_)
  have e1 : ¬ H.next = H.next + 1 := by omega
  have e2 : ¬ H.next + 1 = H.next := by omega
  have hE0 : ∀ o1 o2, Ext H ((H.new o1).new o2) := fun o1 o2 => ((Ext.refl H).new _).new _
  simp -implicitDefEqProofs only [c43, go_sem, Nat.reduceEqDiff, Nat.reduceAdd, Nat.reduceLeDiff, ↓reduceIte, reduceCtorEq, Int.reduceBEq, Int.reduceBNe, Int.reduceLT, Int.reduceLE, Int.reduceGT, Int.reduceGE, Int.reduceNeg, Int.reduceAdd, Int.reduceSub, Nat.reduceMul, Nat.reduceLT, Int.reduceToNat, hl1.one, hl1.cells, hk1.one, hk1.cells, hl1'.one, hl1'.cells, hk1'.one, hk1'.cells, e1, e2]
  refine i_callA (fs := []) (cs := []) ?_ ?_ (check_ok canF a fa _ hA' _) ?_
  · rfl
  · simp -implicitDefEqProofs only [go_sem, Nat.reduceEqDiff, Nat.reduceAdd, Nat.reduceLeDiff, ↓reduceIte, reduceCtorEq, Int.reduceBEq, Int.reduceBNe, Int.reduceLT, Int.reduceLE, Int.reduceGT, Int.reduceGE, Int.reduceNeg, Int.reduceAdd, Int.reduceSub, Nat.reduceMul, Nat.reduceLT, Int.reduceToNat]
  rintro x H3 ⟨rfl, rfl⟩
  by_cases c1 : checkF canF a = 0
  case neg =>
    simp -implicitDefEqProofs only [go_sem, Nat.reduceEqDiff, Nat.reduceAdd, Nat.reduceLeDiff, ↓reduceIte, reduceCtorEq, Int.reduceBEq, Int.reduceBNe, Int.reduceLT, Int.reduceLE, Int.reduceGT, Int.reduceGE, Int.reduceNeg, Int.reduceAdd, Int.reduceSub, Nat.reduceMul, Nat.reduceLT, Int.reduceToNat, bne' c1]
    exact ⟨by simp [sameF, c1], hE0 _ _⟩
  rw [c1]
  simp -implicitDefEqProofs only [go_sem, Nat.reduceEqDiff, Nat.reduceAdd, Nat.reduceLeDiff, ↓reduceIte, reduceCtorEq, Int.reduceBEq, Int.reduceBNe, Int.reduceLT, Int.reduceLE, Int.reduceGT, Int.reduceGE, Int.reduceNeg, Int.reduceAdd, Int.reduceSub, Nat.reduceMul, Nat.reduceLT, Int.reduceToNat, e1, e2]
  refine i_callA (fs := []) (cs := []) ?_ ?_ (check_ok canF b fb _ hB' _) ?_
  · rfl
  · simp -implicitDefEqProofs only [go_sem, Nat.reduceEqDiff, Nat.reduceAdd, Nat.reduceLeDiff, ↓reduceIte, reduceCtorEq, Int.reduceBEq, Int.reduceBNe, Int.reduceLT, Int.reduceLE, Int.reduceGT, Int.reduceGE, Int.reduceNeg, Int.reduceAdd, Int.reduceSub, Nat.reduceMul, Nat.reduceLT, Int.reduceToNat]
  rintro x H3 ⟨rfl, rfl⟩
  by_cases c2 : checkF canF b = 0
  case neg =>
    simp -implicitDefEqProofs only [go_sem, Nat.reduceEqDiff, Nat.reduceAdd, Nat.reduceLeDiff, ↓reduceIte, reduceCtorEq, Int.reduceBEq, Int.reduceBNe, Int.reduceLT, Int.reduceLE, Int.reduceGT, Int.reduceGE, Int.reduceNeg, Int.reduceAdd, Int.reduceSub, Nat.reduceMul, Nat.reduceLT, Int.reduceToNat, bne' c2]
    exact ⟨by simp [sameF, c2], hE0 _ _⟩
  rw [c2]
  simp -implicitDefEqProofs only [go_sem, Nat.reduceEqDiff, Nat.reduceAdd, Nat.reduceLeDiff, ↓reduceIte, reduceCtorEq, Int.reduceBEq, Int.reduceBNe, Int.reduceLT, Int.reduceLE, Int.reduceGT, Int.reduceGE, Int.reduceNeg, Int.reduceAdd, Int.reduceSub, Nat.reduceMul, Nat.reduceLT, Int.reduceToNat, e1, e2]
  refine i_callA (fs := []) (cs := []) ?_ ?_ (rawSame_ok a ha b _ _ hA' hB' _) ?_
  · rfl
  · simp -implicitDefEqProofs only [go_sem, Nat.reduceEqDiff, Nat.reduceAdd, Nat.reduceLeDiff, ↓reduceIte, reduceCtorEq, Int.reduceBEq, Int.reduceBNe, Int.reduceLT, Int.reduceLE, Int.reduceGT, Int.reduceGE, Int.reduceNeg, Int.reduceAdd, Int.reduceSub, Nat.reduceMul, Nat.reduceLT, Int.reduceToNat]
  rintro x H3 ⟨rfl, rfl⟩
  simp -implicitDefEqProofs only [go_sem, Nat.reduceEqDiff, Nat.reduceAdd, Nat.reduceLeDiff, ↓reduceIte, reduceCtorEq, Int.reduceBEq, Int.reduceBNe, Int.reduceLT, Int.reduceLE, Int.reduceGT, Int.reduceGE, Int.reduceNeg, Int.reduceAdd, Int.reduceSub, Nat.reduceMul, Nat.reduceLT, Int.reduceToNat]
  exact ⟨by simp [sameF, c1, c2], hE0 _ _⟩
end Go.Proofs.Ytooaiddfokbffaa.E
