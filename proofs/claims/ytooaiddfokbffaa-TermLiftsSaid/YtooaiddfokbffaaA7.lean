/- Texts of the proof, one behind the other. Conditions: none. -/
import Derived.Test.YtooaiddfokbffaaA6
import Derived.SizedLaws
import Derived.Carry
import Derived.WalkKit
import Derived.ProofKit
import Derived.OpenShut
import Derived.ShutString
import Derived.ChangeOld
import Derived.Below
/- The free variables of a term, and whether a name stands in it. Conditions: none. -/
set_option linter.unusedVariables false
set_option linter.unusedSimpArgs false
namespace Go.Proofs.Ytooaiddfokbffaa.E
open Go Go.Proofs
attribute [local go_sem] s_seq s_ops s_draw s_block s_skip s_ret s_exit i_nil i_cons i_run i_runG s_condQ c_true c_false aop ev_t ev_c updO_at updO_no upd_at t_normal t_ret t_exit b_normal b_ret b_exit a_some ac_v ac_agg ac_ptr ac_slc ac_ro ac_rop ac_fn new_next set_next argTm_zero argTm_succ argTm_nil ab_bool ab_uv beq_self_eq_true Option.some_beq_some Bool.not_not beq_iff_eq decide_true decide_false Bool.not_true Bool.not_false afld aload astore apack alen_str alen_ro alen_slc alen_nil new_get set_get ite_true ite_false Option.map_some Option.bind_some ibin isShift Nat.add_zero Nat.zero_add List.length_cons List.length_nil List.drop_zero List.drop_succ_cons List.take_succ_cons List.take_zero if_true if_false setL List.set_cons_zero List.set_cons_succ List.all_cons List.all_nil one_int one_bool one_str one_nil one_ptr one_slc one_ro one_rop one_fn Bool.and_self Bool.and_true true_and and_true and_self Bool.false_eq_true post_ret post_normal resAll resOne packR Option.some.injEq exists_eq_left' List.map_cons List.map_nil List.nil_append List.append_nil List.cons_append d_nil d_cons k_nil k_cons g_op g_same g_new avBlock forall_eq' List.getElem?_cons_succ List.getElem?_cons_zero List.getElem?_nil okind gOk bne false_imp_iff forall_const imp_self implies_true true_imp_iff i_callG

/-- The greater one. -/
def mx (m q : Int) : Int := if q > m then q else m
theorem mx_pos {m q : Int} (h : q > m) : mx m q = q := if_pos h
theorem mx_neg {m q : Int} (h : ¬ q > m) : mx m q = m := if_neg h
theorem mx_spec (m q : Int) : (q > m ∧ mx m q = q) ∨ (q ≤ m ∧ mx m q = m) := by
  rcases Int.lt_or_le m q with h | h
  · exact .inl ⟨h, mx_pos h⟩
  · exact .inr ⟨h, mx_neg (by omega)⟩
theorem mx_assoc (a b c : Int) : mx (mx a b) c = mx a (mx b c) := by
  rcases mx_spec a b with ⟨h1, h2⟩ | ⟨h1, h2⟩ <;> rcases mx_spec b c with ⟨h3, h4⟩ | ⟨h3, h4⟩ <;> rw [h2, h4] <;>
  rcases mx_spec a c with ⟨h5, h6⟩ | ⟨h5, h6⟩ <;> rcases mx_spec a b with ⟨h7, h8⟩ | ⟨h7, h8⟩ <;> rcases mx_spec b c with ⟨h9, h10⟩ | ⟨h9, h10⟩ <;> omega

mutual
def freeT (deep : Int) : Tm → Int
  | .mk f n _ _ _ ks => if f = 1 then (if n < deep then 0 else n - deep + 1) else freeK f deep 0 0 ks
def freeK (f deep : Int) (i : Nat) (m : Int) : List Tm → Int
  | [] => m
  | k :: r => freeK f deep (i + 1) (mx m (freeT (underF f i deep) k)) r
end

/-- A variable's index, and that it has no kids. -/
def Vok (t : Tm) : Prop := t.kids.length ≤ 4611686018427387904 ∧ (t.form = 1 → (0 ≤ t.n ∧ t.n ≤ 1073741824) ∧ t.kids = [])

theorem freeT_bound : ∀ t, Tm.All Vok t → ∀ deep, 0 ≤ deep → 0 ≤ freeT deep t ∧ freeT deep t ≤ 1073741825 := by
  refine Tm.rule fun f n hd s lv ks ih ha deep h0 => ?_
  simp only [Tm.All, Vok, Tm.form, Tm.n, Tm.kids] at ha
  obtain ⟨⟨a1, a2⟩, a5⟩ := ha
  simp only [freeT]
  by_cases hf : f = 1
  · obtain ⟨⟨q1, q2⟩, _⟩ := a2 hf
    rw [if_pos hf]
    split <;> omega
  rw [if_neg hf]
  have key : ∀ ks', (∀ k ∈ ks', k ∈ ks) → ∀ (i : Nat) m, 0 ≤ m → m ≤ 1073741825 → 0 ≤ freeK f deep i m ks' ∧ freeK f deep i m ks' ≤ 1073741825 := by
    intro ks'
    induction ks' with
    | nil => intro _ i m h1 h2; exact ⟨h1, h2⟩
    | cons k r ih' =>
      intro hm i m h1 h2
      have hk := hm k (List.mem_cons_self ..)
      have := underF_bound f i deep
      have := ih k hk (a5.mem k hk) (underF f i deep) (by omega)
      simp only [freeK]
      rcases mx_spec m (freeT (underF f i deep) k) with ⟨_, h⟩ | ⟨_, h⟩ <;> rw [h] <;> exact ih' (fun k hk => hm k (List.mem_cons_of_mem _ hk)) (i + 1) _ (by omega) (by omega)
  exact key ks (fun _ h => h) 0 0 (by omega) (by omega)

def isFree (t : Tm) (deep : Int) (c : List AV) : Bool × List AV :=
  (false, if t.form = 1 then (match c with | [.v (.int .i64 m)] => [aint (mx m (t.n - deep + 1))] | c => c) else c)

theorem isFree_one {t : Tm} {deep m : Int} (h : t.form = 1) : isFree t deep [aint m] = (false, [aint (mx m (t.n - deep + 1))]) := by
  unfold isFree; rw [if_pos h]
theorem isFree_no {t : Tm} {deep : Int} {c : List AV} (h : ¬ t.form = 1) : isFree t deep c = (false, c) := by
  unfold isFree; rw [if_neg h]

theorem freeK_mx (f deep : Int) : ∀ (ks : List Tm) (i : Nat) (m m' : Int), freeK f deep i (mx m m') ks = mx m (freeK f deep i m' ks)
  | [], i, m, m' => rfl
  | k :: r, i, m, m' => by
    simp only [freeK]
    rw [mx_assoc, freeK_mx f deep r]

theorem any_free : ∀ t, Tm.All Vok t → ∀ deep m, 0 ≤ m → anyT isFree deep [aint m] t = (false, [aint (mx m (freeT deep t))]) := by
  refine Tm.rule fun f n hd s lv ks ih ha deep m h0 => ?_
  simp only [Tm.All, Vok, Tm.form, Tm.n, Tm.kids] at ha
  obtain ⟨⟨a1, a2⟩, a5⟩ := ha
  rw [anyT, freeT]
  by_cases hf : f = 1
  · obtain ⟨_, q⟩ := a2 hf
    subst q
    rw [isFree_one (by exact hf), if_pos hf]
    simp only [Bool.false_eq_true, if_false, anyK, Tm.n]
    by_cases h1 : n < deep
    · rw [if_pos h1, mx_neg (by omega), mx_neg (by omega)]
    · rw [if_neg h1]
  · rw [isFree_no (by exact hf), if_neg hf]
    simp only [Bool.false_eq_true, if_false]
    have key : ∀ ks', (∀ k ∈ ks', k ∈ ks) → ∀ (i : Nat) m, 0 ≤ m → anyK isFree f i deep [aint m] ks' = (false, [aint (freeK f deep i m ks')]) := by
      intro ks'
      induction ks' with
      | nil => intro _ i m h1; rfl
      | cons k r ih' =>
        intro hm i m h1
        have hk := hm k (List.mem_cons_self ..)
        rw [anyK, freeK, ih k hk (a5.mem k hk) _ m h1]
        simp only [Bool.false_eq_true, if_false]
        exact ih' (fun k hk => hm k (List.mem_cons_of_mem _ hk)) (i + 1) _ (by rcases mx_spec m (freeT (underF f i deep) k) with ⟨_, h⟩ | ⟨_, h⟩ <;> omega)
    rw [key ks (fun _ h => h) 0 m h0]
    congr 3
    rw [← freeK_mx, mx_neg (by omega)]

set_option maxRecDepth 100000 in
theorem isFree_ok (b : Nat) (t : Tm) (cells : List AV) (deep m : Int) (G : AHeap) (ht : Vok t) (hT : TmR t cells) (hd0 : 0 ≤ deep) (hd1 : deep ≤ 4611686018427387904) (hg : G.get b = some (.cells [aint m])) (hb : b < G.next) :
    SCall Try.prog 139 [.agg cells, aint deep, .ptr b 0] G fun x H' => x = abl (isFree t deep [aint m]).1 ∧ H' = G.set b (.cells (isFree t deep [aint m]).2) := by
  obtain ⟨lx, kx, ls, cs, rfl, hl1, hl2, hk1, hk2⟩ := hT.six
  have hne : ¬ b = G.next := by omega
  have hne' : ¬ G.next = b := by omega
  have hE0 : ∀ o o', Ext (G.set b o') ((G.new o).set b o') := fun o o' => (Ext.selfE hg ((Ext.refl G).new o)).put
  refine SCall.valAt b _ hb ?_ (SCall.intro mixed cf139 ?_)
  · intro x hx
    by_cases hf : t.form = 1
    · rw [isFree_one hf] at hx; simp at hx; subst hx; exact .v _
    · rw [isFree_no hf] at hx; simp at hx; subst hx; exact .v _
  by_cases hf : t.form = 1
  · have hn := (ht.2 hf).1
    have w1 : IntKind.i64.wrap (t.n - deep) = t.n - deep := i64_ok _ (by omega)
    have w2 : IntKind.i64.wrap (t.n - deep + 1) = t.n - deep + 1 := i64_ok _ (by omega)
    have hfb : (t.form == 1) = true := by rw [hf]; rfl
    simp -implicitDefEqProofs only [c139, go_sem, Nat.reduceEqDiff, Nat.reduceAdd, Nat.reduceLeDiff, ↓reduceIte, reduceCtorEq, Int.reduceBEq, Int.reduceBNe, Int.reduceLT, Int.reduceLE, Int.reduceGT, Int.reduceGE, Int.reduceNeg, Int.reduceAdd, Int.reduceSub, Nat.reduceMul, Nat.reduceLT, Int.reduceToNat, hl1.one, hl1.cells, hk1.one, hk1.cells, hfb, hne, hne', hg, w1, w2, amm]
    rw [isFree_one hf]
    exact ⟨rfl, hE0 _ _⟩
  · simp -implicitDefEqProofs only [c139, go_sem, Nat.reduceEqDiff, Nat.reduceAdd, Nat.reduceLeDiff, ↓reduceIte, reduceCtorEq, Int.reduceBEq, Int.reduceBNe, Int.reduceLT, Int.reduceLE, Int.reduceGT, Int.reduceGE, Int.reduceNeg, Int.reduceAdd, Int.reduceSub, Nat.reduceMul, Nat.reduceLT, Int.reduceToNat, hl1.one, hl1.cells, hk1.one, hk1.cells, bne' hf, hne, hne', hg]
    rw [isFree_no hf]
    exact ⟨rfl, Ext.selfE hg ((Ext.refl G).new _)⟩

set_option maxRecDepth 100000 in
theorem rawFree_ok (t : Tm) (ha : Tm.All Vok t) (hh : htT t ≤ 1000000) (cells : List AV) (hT : TmR t cells) (H : AHeap) : SCall Try.prog 92 [.agg cells] H fun x H' => x = aint (freeT 0 t) ∧ H' = H := by
  refine SCall.val (SCall.intro mixed cf92 ?_)
  have hT' := hT
  obtain ⟨lx, kx, ls, cs, rfl, hl1, hl2, hk1, hk2⟩ := hT.six
  have e1 : ¬ H.next = H.next + 1 := by omega
  have e2 : ¬ H.next + 1 = H.next := by omega
  have hfb := freeT_bound t ha 0 (by omega)
  simp -implicitDefEqProofs only [c92, go_sem, Nat.reduceEqDiff, Nat.reduceAdd, Nat.reduceLeDiff, ↓reduceIte, reduceCtorEq, Int.reduceBEq, Int.reduceBNe, Int.reduceLT, Int.reduceLE, Int.reduceGT, Int.reduceGE, Int.reduceNeg, Int.reduceAdd, Int.reduceSub, Nat.reduceMul, Nat.reduceLT, Int.reduceToNat, hl1.one, hl1.cells, hk1.one, hk1.cells, e1, e2]
  refine i_callA (fs := []) (cs := []) (fid := 138) ?_ ?_ (any_ok (Pt := Vok) (isF := isFree) (b := H.next + 1) (Inv := fun c => ∃ m : Int, c = [aint m]) (fun t ht => ht.1) (fun c ⟨m, hm⟩ x hx => by rw [hm] at hx; simp at hx; rw [hx]; exact .v _)
    (fun t deep c ht h1 h2 ⟨m, hm⟩ => by subst hm; by_cases hf : t.form = 1; exact ⟨_, by rw [isFree_one hf]⟩; exact ⟨_, by rw [isFree_no hf]⟩)
    (fun t cells deep c G ht hT h1 h2 ⟨m, hm⟩ hg hb => by subst hm; exact isFree_ok _ t cells deep m G ht hT h1 h2 hg hb) t ha _ hT' 0 [aint 0] (by omega) (by omega) ⟨0, rfl⟩ _ (by simp -implicitDefEqProofs only [go_sem, Nat.reduceEqDiff, Nat.reduceAdd, Nat.reduceLeDiff, ↓reduceIte, reduceCtorEq, Int.reduceBEq, Int.reduceBNe, Int.reduceLT, Int.reduceLE, Int.reduceGT, Int.reduceGE, Int.reduceNeg, Int.reduceAdd, Int.reduceSub, Nat.reduceMul, Nat.reduceLT, Int.reduceToNat]) (by rw [set_next, new_next, new_next]; omega)) ?_
  · rfl
  · simp -implicitDefEqProofs only [go_sem, Nat.reduceEqDiff, Nat.reduceAdd, Nat.reduceLeDiff, ↓reduceIte, reduceCtorEq, Int.reduceBEq, Int.reduceBNe, Int.reduceLT, Int.reduceLE, Int.reduceGT, Int.reduceGE, Int.reduceNeg, Int.reduceAdd, Int.reduceSub, Nat.reduceMul, Nat.reduceLT, Int.reduceToNat]
  rintro x H3 ⟨rfl, rfl⟩
  rw [any_free t ha 0 0 (Int.le_refl _)]
  simp -implicitDefEqProofs only [go_sem, Nat.reduceEqDiff, Nat.reduceAdd, Nat.reduceLeDiff, ↓reduceIte, reduceCtorEq, Int.reduceBEq, Int.reduceBNe, Int.reduceLT, Int.reduceLE, Int.reduceGT, Int.reduceGE, Int.reduceNeg, Int.reduceAdd, Int.reduceSub, Nat.reduceMul, Nat.reduceLT, Int.reduceToNat]
  refine ⟨?_, ((((Ext.refl H).new _).new _).set (by omega) _).set (by omega) _⟩
  rcases mx_spec 0 (freeT 0 t) with ⟨_, h⟩ | ⟨_, h⟩
  · rw [h]
  · rw [h, show freeT 0 t = 0 by omega]

theorem form_vok (r : Lv → Bool) : ∀ t, Tm.All TmB t → allF (formF r) t = true → Tm.All Vok t := by
  refine Tm.rule fun f n hd s lv ks ih hb h => ?_
  simp only [Tm.All, TmB, Tm.kids] at hb
  simp only [allF, Bool.and_eq_true] at h
  obtain ⟨h1, h2⟩ := h
  simp only [Tm.All, Vok, Tm.form, Tm.n, Tm.kids]
  refine ⟨⟨by omega, fun hf => ?_⟩, ?_⟩
  · subst hf
    simp only [formF, Tm.form, Tm.kids, Tm.n] at h1
    split at h1
    · cases h1
    rename_i hk
    have hk0 : ks.length = 0 := by
      have : kidsF 1 = 0 := rfl
      omega
    rw [if_pos (.inl trivial)] at h1
    obtain ⟨h3, h4⟩ := Bool.and_eq_true_iff.1 h1
    exact ⟨⟨of_decide_eq_true h3, of_decide_eq_true h4⟩, List.length_eq_zero_iff.1 hk0⟩
  · have key : ∀ ks', (∀ k ∈ ks', k ∈ ks) → allK (formF r) ks' = true → Tm.AllL Vok ks' := by
      intro ks'
      induction ks' with
      | nil => intro _ _; trivial
      | cons k r' ih' =>
        intro hm h
        simp only [allK, Bool.and_eq_true] at h
        have hk := hm k (List.mem_cons_self ..)
        exact ⟨ih k hk (hb.2.mem k hk) h.1, ih' (fun k hk => hm k (List.mem_cons_of_mem _ hk)) h.2⟩
    exact key ks (fun _ h => h) h2

theorem check_form {r : Lv → Bool} {t : Tm} (h : checkF r t = 0) : (fitT 0 1 t).1 = true ∧ allF (formF r) t = true := by
  unfold checkF at h
  split at h
  · cases h
  · rename_i h1
    split at h
    · cases h
    · rename_i h2
      exact ⟨by simpa using h1, by simpa using h2⟩

def freeF (r : Lv → Bool) (t : Tm) : Int := if checkF r t = 0 then freeT 0 t else 0

set_option maxRecDepth 100000 in
theorem free_ok (r : Lv → Bool) (t : Tm) (hall : Tm.All (Fine r) t) (hb : Tm.All TmB t) (hh : htT t ≤ 1000000) (cells : List AV) (hT : TmR t cells) (H : AHeap) : SCall Try.prog 39 [.agg cells] H fun x H' => x = aint (freeF r t) ∧ H' = H := by
  refine SCall.val (SCall.intro mixed cf39 ?_)
  have hT' := hT
  obtain ⟨lx, kx, ls, cs, rfl, hl1, hl2, hk1, hk2⟩ := hT.six
  simp -implicitDefEqProofs only [c39, go_sem, Nat.reduceEqDiff, Nat.reduceAdd, Nat.reduceLeDiff, ↓reduceIte, reduceCtorEq, Int.reduceBEq, Int.reduceBNe, Int.reduceLT, Int.reduceLE, Int.reduceGT, Int.reduceGE, Int.reduceNeg, Int.reduceAdd, Int.reduceSub, Nat.reduceMul, Nat.reduceLT, Int.reduceToNat, hl1.one, hl1.cells, hk1.one, hk1.cells]
  refine i_callA (fs := []) (cs := []) ?_ ?_ (check_ok r t hall _ hT' _) ?_
  · rfl
  · simp -implicitDefEqProofs only [go_sem, Nat.reduceEqDiff, Nat.reduceAdd, Nat.reduceLeDiff, ↓reduceIte, reduceCtorEq, Int.reduceBEq, Int.reduceBNe, Int.reduceLT, Int.reduceLE, Int.reduceGT, Int.reduceGE, Int.reduceNeg, Int.reduceAdd, Int.reduceSub, Nat.reduceMul, Nat.reduceLT, Int.reduceToNat]
  rintro x H3 ⟨rfl, rfl⟩
  by_cases hc : checkF r t = 0
  · rw [hc]
    simp -implicitDefEqProofs only [go_sem, Nat.reduceEqDiff, Nat.reduceAdd, Nat.reduceLeDiff, ↓reduceIte, reduceCtorEq, Int.reduceBEq, Int.reduceBNe, Int.reduceLT, Int.reduceLE, Int.reduceGT, Int.reduceGE, Int.reduceNeg, Int.reduceAdd, Int.reduceSub, Nat.reduceMul, Nat.reduceLT, Int.reduceToNat]
    refine i_callA (fs := []) (cs := []) ?_ ?_ (rawFree_ok t (form_vok r t hb (check_form hc).2) hh _ hT' _) ?_
    · rfl
    · simp -implicitDefEqProofs only [go_sem, Nat.reduceEqDiff, Nat.reduceAdd, Nat.reduceLeDiff, ↓reduceIte, reduceCtorEq, Int.reduceBEq, Int.reduceBNe, Int.reduceLT, Int.reduceLE, Int.reduceGT, Int.reduceGE, Int.reduceNeg, Int.reduceAdd, Int.reduceSub, Nat.reduceMul, Nat.reduceLT, Int.reduceToNat]
    rintro x H3 ⟨rfl, rfl⟩
    simp -implicitDefEqProofs only [go_sem, Nat.reduceEqDiff, Nat.reduceAdd, Nat.reduceLeDiff, ↓reduceIte, reduceCtorEq, Int.reduceBEq, Int.reduceBNe, Int.reduceLT, Int.reduceLE, Int.reduceGT, Int.reduceGE, Int.reduceNeg, Int.reduceAdd, Int.reduceSub, Nat.reduceMul, Nat.reduceLT, Int.reduceToNat]
    exact ⟨by simp [freeF, hc], (Ext.refl H).new _⟩
  · simp -implicitDefEqProofs only [go_sem, Nat.reduceEqDiff, Nat.reduceAdd, Nat.reduceLeDiff, ↓reduceIte, reduceCtorEq, Int.reduceBEq, Int.reduceBNe, Int.reduceLT, Int.reduceLE, Int.reduceGT, Int.reduceGE, Int.reduceNeg, Int.reduceAdd, Int.reduceSub, Nat.reduceMul, Nat.reduceLT, Int.reduceToNat, bne' hc]
    exact ⟨by simp [freeF, hc], (Ext.refl H).new _⟩

set_option maxRecDepth 100000 in
theorem free2T_ok : ∀ t, Tm.All Vok t → ∀ (cells : List AV), TmR t cells → ∀ (deep : Int), 0 ≤ deep → deep + htT t ≤ 4611686018427387904 → ∀ (H : AHeap),
    SCall Try.prog 93 [.agg cells, aint deep] H fun x H' => x = aint (freeT deep t) ∧ H' = H := by
  refine Tm.rule fun f n hid s lv ks ih ha cells hT deep hd0 hd1 H => ?_
  have hbd := freeT_bound _ ha deep hd0
  obtain ⟨lx, kx, ls, cs, rfl, hl1, hl2, hk1, hk2⟩ := hT.six
  simp only [Tm.All, Vok, Tm.form, Tm.n, Tm.hid, Tm.name, Tm.lv, Tm.kids, htT] at *
  obtain ⟨⟨a1, a2⟩, a5⟩ := ha
  refine SCall.val (SCall.intro mixed cf93 ?_)
  by_cases hf : f = 1
  · subst hf
    have hn := (a2 rfl).1
    have w1 : IntKind.i64.wrap (n - deep) = n - deep := i64_ok _ (by omega)
    have w2 : IntKind.i64.wrap (n - deep + 1) = n - deep + 1 := i64_ok _ (by omega)
    by_cases h1 : n < deep
    · simp -implicitDefEqProofs only [c93, go_sem, Nat.reduceEqDiff, Nat.reduceAdd, Nat.reduceLeDiff, ↓reduceIte, reduceCtorEq, Int.reduceBEq, Int.reduceBNe, Int.reduceLT, Int.reduceLE, Int.reduceGT, Int.reduceGE, Int.reduceNeg, Int.reduceAdd, Int.reduceSub, Nat.reduceMul, Nat.reduceLT, Int.reduceToNat, hl1.one, hl1.cells, hk1.one, hk1.cells, h1]
      exact ⟨by simp [freeT, h1], (Ext.refl H).new _⟩
    · simp -implicitDefEqProofs only [c93, go_sem, Nat.reduceEqDiff, Nat.reduceAdd, Nat.reduceLeDiff, ↓reduceIte, reduceCtorEq, Int.reduceBEq, Int.reduceBNe, Int.reduceLT, Int.reduceLE, Int.reduceGT, Int.reduceGE, Int.reduceNeg, Int.reduceAdd, Int.reduceSub, Nat.reduceMul, Nat.reduceLT, Int.reduceToNat, hl1.one, hl1.cells, hk1.one, hk1.cells, h1, w1, w2]
      exact ⟨by simp [freeT, h1], (Ext.refl H).new _⟩
  simp only [freeT, if_neg hf] at hbd ⊢
  simp -implicitDefEqProofs only [c93, go_sem, Nat.reduceEqDiff, Nat.reduceAdd, Nat.reduceLeDiff, ↓reduceIte, reduceCtorEq, Int.reduceBEq, Int.reduceBNe, Int.reduceLT, Int.reduceLE, Int.reduceGT, Int.reduceGE, Int.reduceNeg, Int.reduceAdd, Int.reduceSub, Nat.reduceMul, Nat.reduceLT, Int.reduceToNat, hl1.one, hl1.cells, hk1.one, hk1.cells, bne' hf]
  have hc0 : (H.new (.cells [aint f, aint n, abl hid, .v (.string s), lx, kx])).get H.next = some (.cells [aint f, aint n, abl hid, .v (.string s), lx, kx]) := by rw [new_get, if_pos rfl]
  refine swp_range ks.length (fun i st => st.tm 1 = aint deep ∧ st.tm 2 = .ptr H.next 0 ∧ st.tm 6 = aint i ∧ Ext H st.heap ∧ st.heap.get H.next = some (.cells [aint f, aint n, abl hid, .v (.string s), lx, kx]) ∧
    ∃ m, st.tm 5 = aint m ∧ freeK f deep 0 0 ks = freeK f deep i m (ks.drop i)) ?_ ?_ ?_
  · exact ⟨rfl, rfl, rfl, (Ext.refl H).new _, hc0, 0, rfl, by simp⟩
  · rintro i ⟨tm, H2⟩ hi ⟨t1, t2, t6, hE, hg, m, t5, hr⟩
    simp only at t1 t2 t5 t6 hE hg
    have hltI : (i : Int) < (ks.length : Int) := by omega
    have hix := hk1.aix 6 hi
    obtain ⟨kc, hkc, hle, hld⟩ := hk2.load (List.getElem?_eq_getElem hi)
    have hdrop : ks.drop i = ks[i] :: ks.drop (i + 1) := List.drop_eq_getElem_cons hi
    rw [hdrop, freeK] at hr
    have hkm := List.getElem_mem hi
    have hub := underF_bound f i deep
    have hh := htK_mem hkm
    have w3 : IntKind.i64.wrap ((i : Int) + 1) = (i : Int) + 1 := i64_ok _ (by omega)
    have w4 : IntKind.i64.wrap (deep + 1) = deep + 1 := i64_ok _ (by omega)
    by_cases hu : (i : Int) = 1
    · have hib : ((i : Int) == 1) = true := by rw [hu]; rfl
      simp -implicitDefEqProofs only [go_sem, Nat.reduceEqDiff, Nat.reduceAdd, Nat.reduceLeDiff, ↓reduceIte, reduceCtorEq, Int.reduceBEq, Int.reduceBNe, Int.reduceLT, Int.reduceLE, Int.reduceGT, Int.reduceGE, Int.reduceNeg, Int.reduceAdd, Int.reduceSub, Nat.reduceMul, Nat.reduceLT, Int.reduceToNat, t1, t2, t5, t6, hg, fun H => hk1.alen H, hltI, hib]
      refine i_callA (fs := []) (cs := []) (fid := 127) ?_ ?_ (binds2_ok f _) ?_
      · rfl
      · simp -implicitDefEqProofs only [go_sem, Nat.reduceEqDiff, Nat.reduceAdd, Nat.reduceLeDiff, ↓reduceIte, reduceCtorEq, Int.reduceBEq, Int.reduceBNe, Int.reduceLT, Int.reduceLE, Int.reduceGT, Int.reduceGE, Int.reduceNeg, Int.reduceAdd, Int.reduceSub, Nat.reduceMul, Nat.reduceLT, Int.reduceToNat]
      rintro x H3 ⟨rfl, rfl⟩
      cases hbf : bindsF f with
      | true =>
        have hun : underF f i deep = deep + 1 := by simp [underF, hu, hbf]
        rw [hun] at hr
        simp -implicitDefEqProofs only [go_sem, Nat.reduceEqDiff, Nat.reduceAdd, Nat.reduceLeDiff, ↓reduceIte, reduceCtorEq, Int.reduceBEq, Int.reduceBNe, Int.reduceLT, Int.reduceLE, Int.reduceGT, Int.reduceGE, Int.reduceNeg, Int.reduceAdd, Int.reduceSub, Nat.reduceMul, Nat.reduceLT, Int.reduceToNat, t1, t2, t5, t6, hg, hix, hle, hld, w4]
        refine i_callA (fs := []) (cs := []) (fid := 93) ?_ ?_ (ih ks[i] hkm (a5.mem _ hkm) _ hkc (deep + 1) (by omega) (by omega) _) ?_
        · rfl
        · simp -implicitDefEqProofs only [go_sem, Nat.reduceEqDiff, Nat.reduceAdd, Nat.reduceLeDiff, ↓reduceIte, reduceCtorEq, Int.reduceBEq, Int.reduceBNe, Int.reduceLT, Int.reduceLE, Int.reduceGT, Int.reduceGE, Int.reduceNeg, Int.reduceAdd, Int.reduceSub, Nat.reduceMul, Nat.reduceLT, Int.reduceToNat]
        rintro x H3 ⟨rfl, rfl⟩
        by_cases hgt : freeT (deep + 1) ks[i] > m
        · rw [mx_pos hgt] at hr
          simp -implicitDefEqProofs only [go_sem, Nat.reduceEqDiff, Nat.reduceAdd, Nat.reduceLeDiff, ↓reduceIte, reduceCtorEq, Int.reduceBEq, Int.reduceBNe, Int.reduceLT, Int.reduceLE, Int.reduceGT, Int.reduceGE, Int.reduceNeg, Int.reduceAdd, Int.reduceSub, Nat.reduceMul, Nat.reduceLT, Int.reduceToNat, t1, t2, t5, t6, hgt, w3]
          exact ⟨by simp, hE, hg, _, rfl, hr⟩
        · rw [mx_neg hgt] at hr
          simp -implicitDefEqProofs only [go_sem, Nat.reduceEqDiff, Nat.reduceAdd, Nat.reduceLeDiff, ↓reduceIte, reduceCtorEq, Int.reduceBEq, Int.reduceBNe, Int.reduceLT, Int.reduceLE, Int.reduceGT, Int.reduceGE, Int.reduceNeg, Int.reduceAdd, Int.reduceSub, Nat.reduceMul, Nat.reduceLT, Int.reduceToNat, t1, t2, t5, t6, hgt, w3]
          exact ⟨by simp, hE, hg, _, rfl, hr⟩
      | false =>
        have hun : underF f i deep = deep := by simp [underF, hbf]
        rw [hun] at hr
        simp -implicitDefEqProofs only [go_sem, Nat.reduceEqDiff, Nat.reduceAdd, Nat.reduceLeDiff, ↓reduceIte, reduceCtorEq, Int.reduceBEq, Int.reduceBNe, Int.reduceLT, Int.reduceLE, Int.reduceGT, Int.reduceGE, Int.reduceNeg, Int.reduceAdd, Int.reduceSub, Nat.reduceMul, Nat.reduceLT, Int.reduceToNat, t1, t2, t5, t6, hg, hix, hle, hld, w4]
        refine i_callA (fs := []) (cs := []) (fid := 93) ?_ ?_ (ih ks[i] hkm (a5.mem _ hkm) _ hkc deep (by omega) (by omega) _) ?_
        · rfl
        · simp -implicitDefEqProofs only [go_sem, Nat.reduceEqDiff, Nat.reduceAdd, Nat.reduceLeDiff, ↓reduceIte, reduceCtorEq, Int.reduceBEq, Int.reduceBNe, Int.reduceLT, Int.reduceLE, Int.reduceGT, Int.reduceGE, Int.reduceNeg, Int.reduceAdd, Int.reduceSub, Nat.reduceMul, Nat.reduceLT, Int.reduceToNat]
        rintro x H3 ⟨rfl, rfl⟩
        by_cases hgt : freeT deep ks[i] > m
        · rw [mx_pos hgt] at hr
          simp -implicitDefEqProofs only [go_sem, Nat.reduceEqDiff, Nat.reduceAdd, Nat.reduceLeDiff, ↓reduceIte, reduceCtorEq, Int.reduceBEq, Int.reduceBNe, Int.reduceLT, Int.reduceLE, Int.reduceGT, Int.reduceGE, Int.reduceNeg, Int.reduceAdd, Int.reduceSub, Nat.reduceMul, Nat.reduceLT, Int.reduceToNat, t1, t2, t5, t6, hgt, w3]
          exact ⟨by simp, hE, hg, _, rfl, hr⟩
        · rw [mx_neg hgt] at hr
          simp -implicitDefEqProofs only [go_sem, Nat.reduceEqDiff, Nat.reduceAdd, Nat.reduceLeDiff, ↓reduceIte, reduceCtorEq, Int.reduceBEq, Int.reduceBNe, Int.reduceLT, Int.reduceLE, Int.reduceGT, Int.reduceGE, Int.reduceNeg, Int.reduceAdd, Int.reduceSub, Nat.reduceMul, Nat.reduceLT, Int.reduceToNat, t1, t2, t5, t6, hgt, w3]
          exact ⟨by simp, hE, hg, _, rfl, hr⟩
    · have hun : underF f i deep = deep := by simp [underF, hu]
      rw [hun] at hr
      simp -implicitDefEqProofs only [go_sem, Nat.reduceEqDiff, Nat.reduceAdd, Nat.reduceLeDiff, ↓reduceIte, reduceCtorEq, Int.reduceBEq, Int.reduceBNe, Int.reduceLT, Int.reduceLE, Int.reduceGT, Int.reduceGE, Int.reduceNeg, Int.reduceAdd, Int.reduceSub, Nat.reduceMul, Nat.reduceLT, Int.reduceToNat, t1, t2, t5, t6, hg, fun H => hk1.alen H, hltI, bne' hu, hix, hle, hld]
      refine i_callA (fs := []) (cs := []) (fid := 93) ?_ ?_ (ih ks[i] hkm (a5.mem _ hkm) _ hkc deep (by omega) (by omega) _) ?_
      · rfl
      · simp -implicitDefEqProofs only [go_sem, Nat.reduceEqDiff, Nat.reduceAdd, Nat.reduceLeDiff, ↓reduceIte, reduceCtorEq, Int.reduceBEq, Int.reduceBNe, Int.reduceLT, Int.reduceLE, Int.reduceGT, Int.reduceGE, Int.reduceNeg, Int.reduceAdd, Int.reduceSub, Nat.reduceMul, Nat.reduceLT, Int.reduceToNat]
      rintro x H3 ⟨rfl, rfl⟩
      by_cases hgt : freeT deep ks[i] > m
      · rw [mx_pos hgt] at hr
        simp -implicitDefEqProofs only [go_sem, Nat.reduceEqDiff, Nat.reduceAdd, Nat.reduceLeDiff, ↓reduceIte, reduceCtorEq, Int.reduceBEq, Int.reduceBNe, Int.reduceLT, Int.reduceLE, Int.reduceGT, Int.reduceGE, Int.reduceNeg, Int.reduceAdd, Int.reduceSub, Nat.reduceMul, Nat.reduceLT, Int.reduceToNat, t1, t2, t5, t6, hgt, w3]
        exact ⟨by simp, hE, hg, _, rfl, hr⟩
      · rw [mx_neg hgt] at hr
        simp -implicitDefEqProofs only [go_sem, Nat.reduceEqDiff, Nat.reduceAdd, Nat.reduceLeDiff, ↓reduceIte, reduceCtorEq, Int.reduceBEq, Int.reduceBNe, Int.reduceLT, Int.reduceLE, Int.reduceGT, Int.reduceGE, Int.reduceNeg, Int.reduceAdd, Int.reduceSub, Nat.reduceMul, Nat.reduceLT, Int.reduceToNat, t1, t2, t5, t6, hgt, w3]
        exact ⟨by simp, hE, hg, _, rfl, hr⟩
  · rintro ⟨tm, H2⟩ ⟨t1, t2, t6, hE, hg, m, t5, hr⟩
    simp only at t1 t2 t5 t6 hE hg
    rw [List.drop_length, freeK] at hr
    simp -implicitDefEqProofs only [go_sem, Nat.reduceEqDiff, Nat.reduceAdd, Nat.reduceLeDiff, ↓reduceIte, reduceCtorEq, Int.reduceBEq, Int.reduceBNe, Int.reduceLT, Int.reduceLE, Int.reduceGT, Int.reduceGE, Int.reduceNeg, Int.reduceAdd, Int.reduceSub, Nat.reduceMul, Nat.reduceLT, Int.reduceToNat, t1, t2, t5, t6, hg, fun H => hk1.alen H, Int.lt_irrefl]
    exact ⟨by rw [hr], hE⟩

set_option maxRecDepth 100000 in
theorem free2_ok (r : Lv → Bool) (t : Tm) (hall : Tm.All (Fine2 r) t) (hb : Tm.All TmB t) (hh : htT t ≤ 1000000) (cells : List AV) (hT : TmR t cells) (H : AHeap) : SCall Try.prog 40 [.agg cells] H fun x H' => x = aint (freeF r t) ∧ H' = H := by
  refine SCall.val (SCall.intro mixed cf40 ?_)
  have hT' := hT
  obtain ⟨lx, kx, ls, cs, rfl, hl1, hl2, hk1, hk2⟩ := hT.six
  simp -implicitDefEqProofs only [c40, go_sem, Nat.reduceEqDiff, Nat.reduceAdd, Nat.reduceLeDiff, ↓reduceIte, reduceCtorEq, Int.reduceBEq, Int.reduceBNe, Int.reduceLT, Int.reduceLE, Int.reduceGT, Int.reduceGE, Int.reduceNeg, Int.reduceAdd, Int.reduceSub, Nat.reduceMul, Nat.reduceLT, Int.reduceToNat, hl1.one, hl1.cells, hk1.one, hk1.cells]
  refine i_callA (fs := []) (cs := []) ?_ ?_ (check2_ok r t hall _ hT' _) ?_
  · rfl
  · simp -implicitDefEqProofs only [go_sem, Nat.reduceEqDiff, Nat.reduceAdd, Nat.reduceLeDiff, ↓reduceIte, reduceCtorEq, Int.reduceBEq, Int.reduceBNe, Int.reduceLT, Int.reduceLE, Int.reduceGT, Int.reduceGE, Int.reduceNeg, Int.reduceAdd, Int.reduceSub, Nat.reduceMul, Nat.reduceLT, Int.reduceToNat]
  rintro x H3 ⟨rfl, rfl⟩
  rw [check_same]
  by_cases hc : checkF r t = 0
  · rw [hc]
    simp -implicitDefEqProofs only [go_sem, Nat.reduceEqDiff, Nat.reduceAdd, Nat.reduceLeDiff, ↓reduceIte, reduceCtorEq, Int.reduceBEq, Int.reduceBNe, Int.reduceLT, Int.reduceLE, Int.reduceGT, Int.reduceGE, Int.reduceNeg, Int.reduceAdd, Int.reduceSub, Nat.reduceMul, Nat.reduceLT, Int.reduceToNat]
    refine i_callA (fs := []) (cs := []) ?_ ?_ (free2T_ok t (form_vok r t hb (check_form hc).2) _ hT' 0 (by omega) (by omega) _) ?_
    · rfl
    · simp -implicitDefEqProofs only [go_sem, Nat.reduceEqDiff, Nat.reduceAdd, Nat.reduceLeDiff, ↓reduceIte, reduceCtorEq, Int.reduceBEq, Int.reduceBNe, Int.reduceLT, Int.reduceLE, Int.reduceGT, Int.reduceGE, Int.reduceNeg, Int.reduceAdd, Int.reduceSub, Nat.reduceMul, Nat.reduceLT, Int.reduceToNat]
    rintro x H3 ⟨rfl, rfl⟩
    simp -implicitDefEqProofs only [go_sem, Nat.reduceEqDiff, Nat.reduceAdd, Nat.reduceLeDiff, ↓reduceIte, reduceCtorEq, Int.reduceBEq, Int.reduceBNe, Int.reduceLT, Int.reduceLE, Int.reduceGT, Int.reduceGE, Int.reduceNeg, Int.reduceAdd, Int.reduceSub, Nat.reduceMul, Nat.reduceLT, Int.reduceToNat]
    exact ⟨by simp [freeF, hc], (Ext.refl H).new _⟩
  · simp -implicitDefEqProofs only [go_sem, Nat.reduceEqDiff, Nat.reduceAdd, Nat.reduceLeDiff, ↓reduceIte, reduceCtorEq, Int.reduceBEq, Int.reduceBNe, Int.reduceLT, Int.reduceLE, Int.reduceGT, Int.reduceGE, Int.reduceNeg, Int.reduceAdd, Int.reduceSub, Nat.reduceMul, Nat.reduceLT, Int.reduceToNat, bne' hc]
    exact ⟨by simp [freeF, hc], (Ext.refl H).new _⟩
end Go.Proofs.Ytooaiddfokbffaa.E

/- Whether a constant's name stands in a term. Conditions: none. -/
set_option linter.unusedVariables false
set_option linter.unusedSimpArgs false
namespace Go.Proofs.Ytooaiddfokbffaa.E
open Go Go.Proofs
attribute [local go_sem] s_seq s_ops s_draw s_block s_skip s_ret s_exit i_nil i_cons i_run i_runG s_condQ c_true c_false aop ev_t ev_c updO_at updO_no upd_at t_normal t_ret t_exit b_normal b_ret b_exit a_some ac_v ac_agg ac_ptr ac_slc ac_ro ac_rop ac_fn new_next set_next argTm_zero argTm_succ argTm_nil ab_bool ab_uv beq_self_eq_true Option.some_beq_some Bool.not_not beq_iff_eq decide_true decide_false Bool.not_true Bool.not_false afld aload astore apack alen_str alen_ro alen_slc alen_nil new_get set_get ite_true ite_false Option.map_some Option.bind_some ibin isShift Nat.add_zero Nat.zero_add List.length_cons List.length_nil List.drop_zero List.drop_succ_cons List.take_succ_cons List.take_zero if_true if_false setL List.set_cons_zero List.set_cons_succ List.all_cons List.all_nil one_int one_bool one_str one_nil one_ptr one_slc one_ro one_rop one_fn Bool.and_self Bool.and_true true_and and_true and_self Bool.false_eq_true post_ret post_normal resAll resOne packR Option.some.injEq exists_eq_left' List.map_cons List.map_nil List.nil_append List.append_nil List.cons_append d_nil d_cons k_nil k_cons g_op g_same g_new avBlock forall_eq' List.getElem?_cons_succ List.getElem?_cons_zero List.getElem?_nil okind gOk bne false_imp_iff forall_const imp_self implies_true true_imp_iff i_callG

def sameS (a b : ByteArray) : Bool := a.data.toList == b.data.toList

mutual
def hasT (nm : ByteArray) : Tm → Bool
  | .mk f _ _ s _ ks => if f = 10 ∧ sameS s nm = true then true else hasK nm ks
def hasK (nm : ByteArray) : List Tm → Bool
  | [] => false
  | k :: r => if hasT nm k = true then true else hasK nm r
end

def isHas (nm : ByteArray) (t : Tm) (deep : Int) (c : List AV) : Bool × List AV := (decide (t.form = 10 ∧ sameS t.name nm = true), c)

theorem isHas_yes {nm : ByteArray} {t : Tm} {deep : Int} {c : List AV} (h : t.form = 10 ∧ sameS t.name nm = true) : isHas nm t deep c = (true, c) := by unfold isHas; rw [decide_eq_true h]
theorem isHas_no {nm : ByteArray} {t : Tm} {deep : Int} {c : List AV} (h : ¬ (t.form = 10 ∧ sameS t.name nm = true)) : isHas nm t deep c = (false, c) := by unfold isHas; rw [decide_eq_false h]

theorem any_has (nm : ByteArray) : ∀ t, ∀ deep c, anyT (isHas nm) deep c t = (hasT nm t, c) := by
  refine Tm.rule fun f n hd s lv ks ih deep c => ?_
  rw [anyT, hasT]
  by_cases h : f = 10 ∧ sameS s nm = true
  · rw [isHas_yes (by exact h), if_pos h]; rfl
  · rw [isHas_no (by exact h), if_neg h]
    simp only [Bool.false_eq_true, if_false]
    have key : ∀ ks', (∀ k ∈ ks', k ∈ ks) → ∀ (i : Nat) c, anyK (isHas nm) f i deep c ks' = (hasK nm ks', c) := by
      intro ks'
      induction ks' with
      | nil => intro _ i c; rfl
      | cons k r ih' =>
        intro hm i c
        rw [anyK, hasK, ih k (hm k (List.mem_cons_self ..))]
        cases hasT nm k with
        | true => rfl
        | false => simp only [Bool.false_eq_true, if_false]; exact ih' (fun k hk => hm k (List.mem_cons_of_mem _ hk)) (i + 1) c
    exact key ks (fun _ h => h) 0 _

set_option maxRecDepth 100000 in
theorem isHas_ok (nm : ByteArray) (b : Nat) (t : Tm) (cells : List AV) (deep : Int) (G : AHeap) (hT : TmR t cells) (hg : G.get b = some (.cells [.v (.string nm)])) (hb : b < G.next) :
    SCall Try.prog 140 [.agg cells, aint deep, .ptr b 0] G fun x H' => x = abl (isHas nm t deep [.v (.string nm)]).1 ∧ H' = G.set b (.cells (isHas nm t deep [.v (.string nm)]).2) := by
  obtain ⟨lx, kx, ls, cs, rfl, hl1, hl2, hk1, hk2⟩ := hT.six
  have hne : ¬ b = G.next := by omega
  refine SCall.valAt b _ hb (fun x hx => by simp [isHas] at hx; subst hx; exact .v _) (SCall.intro mixed cf140 ?_)
  have hE : ∀ o, Ext (G.set b (.cells [.v (.string nm)])) (G.new o) := fun o => Ext.selfE hg ((Ext.refl G).new o)
  by_cases hf : t.form = 10
  · have hfb : (t.form == 10) = true := by rw [hf]; rfl
    cases hs : sameS t.name nm with
    | true =>
      have hs' : (t.name.data.toList == nm.data.toList) = true := hs
      simp -implicitDefEqProofs only [c140, go_sem, Nat.reduceEqDiff, Nat.reduceAdd, Nat.reduceLeDiff, ↓reduceIte, reduceCtorEq, Int.reduceBEq, Int.reduceBNe, Int.reduceLT, Int.reduceLE, Int.reduceGT, Int.reduceGE, Int.reduceNeg, Int.reduceAdd, Int.reduceSub, Nat.reduceMul, Nat.reduceLT, Int.reduceToNat, hl1.one, hl1.cells, hk1.one, hk1.cells, hfb, hne, hg, sbin, hs']
      simp only [isHas]
      exact ⟨by rw [decide_eq_true ⟨hf, hs⟩], hE _⟩
    | false =>
      have hs' : (t.name.data.toList == nm.data.toList) = false := hs
      simp -implicitDefEqProofs only [c140, go_sem, Nat.reduceEqDiff, Nat.reduceAdd, Nat.reduceLeDiff, ↓reduceIte, reduceCtorEq, Int.reduceBEq, Int.reduceBNe, Int.reduceLT, Int.reduceLE, Int.reduceGT, Int.reduceGE, Int.reduceNeg, Int.reduceAdd, Int.reduceSub, Nat.reduceMul, Nat.reduceLT, Int.reduceToNat, hl1.one, hl1.cells, hk1.one, hk1.cells, hfb, hne, hg, sbin, hs']
      simp only [isHas]
      exact ⟨by rw [decide_eq_false (fun h => by rw [hs] at h; simp at h)], hE _⟩
  · simp -implicitDefEqProofs only [c140, go_sem, Nat.reduceEqDiff, Nat.reduceAdd, Nat.reduceLeDiff, ↓reduceIte, reduceCtorEq, Int.reduceBEq, Int.reduceBNe, Int.reduceLT, Int.reduceLE, Int.reduceGT, Int.reduceGE, Int.reduceNeg, Int.reduceAdd, Int.reduceSub, Nat.reduceMul, Nat.reduceLT, Int.reduceToNat, hl1.one, hl1.cells, hk1.one, hk1.cells, bne' hf, hne, hg]
    simp only [isHas]
    exact ⟨by rw [decide_eq_false (fun h => hf h.1)], hE _⟩

def Kok (t : Tm) : Prop := t.kids.length ≤ 4611686018427387904

set_option maxRecDepth 100000 in
theorem rawHas_ok (nm : ByteArray) (t : Tm) (ha : Tm.All Kok t) (hh : htT t ≤ 1000000) (cells : List AV) (hT : TmR t cells) (H : AHeap) :
    SCall Try.prog 94 [.agg cells, .v (.string nm)] H fun x H' => x = abl (hasT nm t) ∧ H' = H := by
  refine SCall.val (SCall.intro mixed cf94 ?_)
  have hT' := hT
  obtain ⟨lx, kx, ls, cs, rfl, hl1, hl2, hk1, hk2⟩ := hT.six
  have e1 : ¬ H.next = H.next + 1 := by omega
  have e2 : ¬ H.next + 1 = H.next := by omega
  simp -implicitDefEqProofs only [c94, go_sem, Nat.reduceEqDiff, Nat.reduceAdd, Nat.reduceLeDiff, ↓reduceIte, reduceCtorEq, Int.reduceBEq, Int.reduceBNe, Int.reduceLT, Int.reduceLE, Int.reduceGT, Int.reduceGE, Int.reduceNeg, Int.reduceAdd, Int.reduceSub, Nat.reduceMul, Nat.reduceLT, Int.reduceToNat, hl1.one, hl1.cells, hk1.one, hk1.cells, e1, e2]
  refine i_callA (fs := []) (cs := []) (fid := 138) ?_ ?_ (any_ok (Pt := Kok) (isF := isHas nm) (b := H.next + 1) (Inv := fun c => c = [.v (.string nm)]) (fun t ht => ht) (fun c hc x hx => by rw [hc] at hx; simp at hx; rw [hx]; exact .v _)
    (fun t deep c ht h1 h2 hc => hc)
    (fun t cells deep c G ht hT h1 h2 hc hg hb => by subst hc; exact isHas_ok nm _ t cells deep G hT hg hb) t ha _ hT' 0 _ (by omega) (by omega) rfl _ (by simp -implicitDefEqProofs only [go_sem, Nat.reduceEqDiff, Nat.reduceAdd, Nat.reduceLeDiff, ↓reduceIte, reduceCtorEq, Int.reduceBEq, Int.reduceBNe, Int.reduceLT, Int.reduceLE, Int.reduceGT, Int.reduceGE, Int.reduceNeg, Int.reduceAdd, Int.reduceSub, Nat.reduceMul, Nat.reduceLT, Int.reduceToNat]) (by rw [new_next, new_next]; omega)) ?_
  · rfl
  · simp -implicitDefEqProofs only [go_sem, Nat.reduceEqDiff, Nat.reduceAdd, Nat.reduceLeDiff, ↓reduceIte, reduceCtorEq, Int.reduceBEq, Int.reduceBNe, Int.reduceLT, Int.reduceLE, Int.reduceGT, Int.reduceGE, Int.reduceNeg, Int.reduceAdd, Int.reduceSub, Nat.reduceMul, Nat.reduceLT, Int.reduceToNat]
  rintro x H3 ⟨rfl, rfl⟩
  rw [any_has]
  simp -implicitDefEqProofs only [go_sem, Nat.reduceEqDiff, Nat.reduceAdd, Nat.reduceLeDiff, ↓reduceIte, reduceCtorEq, Int.reduceBEq, Int.reduceBNe, Int.reduceLT, Int.reduceLE, Int.reduceGT, Int.reduceGE, Int.reduceNeg, Int.reduceAdd, Int.reduceSub, Nat.reduceMul, Nat.reduceLT, Int.reduceToNat]
  exact (((Ext.refl H).new _).new _).set (by omega) _

theorem tmb_kok : ∀ t, Tm.All TmB t → Tm.All Kok t := by
  refine Tm.rule fun f n hd s lv ks ih ha => ?_
  simp only [Tm.All, TmB, Kok, Tm.kids] at *
  refine ⟨by omega, ?_⟩
  have key : ∀ ks', (∀ k ∈ ks', k ∈ ks) → Tm.AllL Kok ks' := by
    intro ks'
    induction ks' with
    | nil => intro _; trivial
    | cons k r ih' => intro hm; exact ⟨ih k (hm k (List.mem_cons_self ..)) (ha.2.mem k (hm k (List.mem_cons_self ..))), ih' fun k hk => hm k (List.mem_cons_of_mem _ hk)⟩
  exact key ks fun _ h => h

def hasF (r : Lv → Bool) (nm : ByteArray) (t : Tm) : Bool := if checkF r t = 0 then hasT nm t else false

set_option maxRecDepth 100000 in
theorem has_ok (r : Lv → Bool) (nm : ByteArray) (t : Tm) (hall : Tm.All (Fine r) t) (hb : Tm.All TmB t) (hh : htT t ≤ 1000000) (cells : List AV) (hT : TmR t cells) (H : AHeap) :
    SCall Try.prog 41 [.agg cells, .v (.string nm)] H fun x H' => x = abl (hasF r nm t) ∧ H' = H := by
  refine SCall.val (SCall.intro mixed cf41 ?_)
  have hT' := hT
  obtain ⟨lx, kx, ls, cs, rfl, hl1, hl2, hk1, hk2⟩ := hT.six
  simp -implicitDefEqProofs only [c41, go_sem, Nat.reduceEqDiff, Nat.reduceAdd, Nat.reduceLeDiff, ↓reduceIte, reduceCtorEq, Int.reduceBEq, Int.reduceBNe, Int.reduceLT, Int.reduceLE, Int.reduceGT, Int.reduceGE, Int.reduceNeg, Int.reduceAdd, Int.reduceSub, Nat.reduceMul, Nat.reduceLT, Int.reduceToNat, hl1.one, hl1.cells, hk1.one, hk1.cells]
  refine i_callA (fs := []) (cs := []) ?_ ?_ (check_ok r t hall _ hT' _) ?_
  · rfl
  · simp -implicitDefEqProofs only [go_sem, Nat.reduceEqDiff, Nat.reduceAdd, Nat.reduceLeDiff, ↓reduceIte, reduceCtorEq, Int.reduceBEq, Int.reduceBNe, Int.reduceLT, Int.reduceLE, Int.reduceGT, Int.reduceGE, Int.reduceNeg, Int.reduceAdd, Int.reduceSub, Nat.reduceMul, Nat.reduceLT, Int.reduceToNat]
  rintro x H3 ⟨rfl, rfl⟩
  by_cases hc : checkF r t = 0
  · rw [hc]
    simp -implicitDefEqProofs only [go_sem, Nat.reduceEqDiff, Nat.reduceAdd, Nat.reduceLeDiff, ↓reduceIte, reduceCtorEq, Int.reduceBEq, Int.reduceBNe, Int.reduceLT, Int.reduceLE, Int.reduceGT, Int.reduceGE, Int.reduceNeg, Int.reduceAdd, Int.reduceSub, Nat.reduceMul, Nat.reduceLT, Int.reduceToNat]
    refine i_callA (fs := []) (cs := []) ?_ ?_ (rawHas_ok nm t (tmb_kok t hb) hh _ hT' _) ?_
    · rfl
    · simp -implicitDefEqProofs only [go_sem, Nat.reduceEqDiff, Nat.reduceAdd, Nat.reduceLeDiff, ↓reduceIte, reduceCtorEq, Int.reduceBEq, Int.reduceBNe, Int.reduceLT, Int.reduceLE, Int.reduceGT, Int.reduceGE, Int.reduceNeg, Int.reduceAdd, Int.reduceSub, Nat.reduceMul, Nat.reduceLT, Int.reduceToNat]
    rintro x H3 ⟨rfl, rfl⟩
    simp -implicitDefEqProofs only [go_sem, Nat.reduceEqDiff, Nat.reduceAdd, Nat.reduceLeDiff, ↓reduceIte, reduceCtorEq, Int.reduceBEq, Int.reduceBNe, Int.reduceLT, Int.reduceLE, Int.reduceGT, Int.reduceGE, Int.reduceNeg, Int.reduceAdd, Int.reduceSub, Nat.reduceMul, Nat.reduceLT, Int.reduceToNat]
    exact ⟨by simp [hasF, hc], (Ext.refl H).new _⟩
  · simp -implicitDefEqProofs only [go_sem, Nat.reduceEqDiff, Nat.reduceAdd, Nat.reduceLeDiff, ↓reduceIte, reduceCtorEq, Int.reduceBEq, Int.reduceBNe, Int.reduceLT, Int.reduceLE, Int.reduceGT, Int.reduceGE, Int.reduceNeg, Int.reduceAdd, Int.reduceSub, Nat.reduceMul, Nat.reduceLT, Int.reduceToNat, bne' hc]
    exact ⟨by simp [hasF, hc], (Ext.refl H).new _⟩

set_option maxRecDepth 100000 in
theorem has2T_ok (nm : ByteArray) : ∀ t, Tm.All Kok t → ∀ (cells : List AV), TmR t cells → ∀ (H : AHeap), SCall Try.prog 95 [.agg cells, .v (.string nm)] H fun x H' => x = abl (hasT nm t) ∧ H' = H := by
  refine Tm.rule fun f n hid s lv ks ih ha cells hT H => ?_
  obtain ⟨lx, kx, ls, cs, rfl, hl1, hl2, hk1, hk2⟩ := hT.six
  simp only [Tm.All, Kok, Tm.form, Tm.n, Tm.hid, Tm.name, Tm.lv, Tm.kids] at *
  obtain ⟨a1, a5⟩ := ha
  refine SCall.val (SCall.intro mixed cf95 ?_)
  rw [hasT]
  by_cases h : f = 10 ∧ sameS s nm = true
  · have hfb : (f == 10) = true := by rw [h.1]; rfl
    have hs' : (s.data.toList == nm.data.toList) = true := h.2
    simp -implicitDefEqProofs only [c95, go_sem, Nat.reduceEqDiff, Nat.reduceAdd, Nat.reduceLeDiff, ↓reduceIte, reduceCtorEq, Int.reduceBEq, Int.reduceBNe, Int.reduceLT, Int.reduceLE, Int.reduceGT, Int.reduceGE, Int.reduceNeg, Int.reduceAdd, Int.reduceSub, Nat.reduceMul, Nat.reduceLT, Int.reduceToNat, hl1.one, hl1.cells, hk1.one, hk1.cells, hfb, sbin, hs', h]
    exact (Ext.refl H).new _
  rw [if_neg h]
  -- the test comes to no
  by_cases hf : f = 10
  · have hfb : (f == 10) = true := by rw [hf]; rfl
    have hs' : (s.data.toList == nm.data.toList) = false := by
      cases hq : (s.data.toList == nm.data.toList) with
      | false => rfl
      | true => exact absurd ⟨hf, hq⟩ h
    simp -implicitDefEqProofs only [c95, go_sem, Nat.reduceEqDiff, Nat.reduceAdd, Nat.reduceLeDiff, ↓reduceIte, reduceCtorEq, Int.reduceBEq, Int.reduceBNe, Int.reduceLT, Int.reduceLE, Int.reduceGT, Int.reduceGE, Int.reduceNeg, Int.reduceAdd, Int.reduceSub, Nat.reduceMul, Nat.reduceLT, Int.reduceToNat, hl1.one, hl1.cells, hk1.one, hk1.cells, hfb, sbin, hs']
    refine swp_range ks.length (fun i st => st.tm 1 = .v (.string nm) ∧ st.tm 2 = .ptr H.next 0 ∧ st.tm 5 = aint i ∧ Ext H st.heap ∧ st.heap.get H.next = some (.cells [aint f, aint n, abl hid, .v (.string s), lx, kx]) ∧ hasK nm ks = hasK nm (ks.drop i)) ?_ ?_ ?_
    · exact ⟨rfl, rfl, rfl, (Ext.refl H).new _, by rw [new_get, if_pos rfl], by simp⟩
    · rintro i ⟨tm, H2⟩ hi ⟨t1, t2, t5, hE, hg, hr⟩
      simp only at t1 t2 t5 hE hg
      have hltI : (i : Int) < (ks.length : Int) := by omega
      have hix := hk1.aix 6 hi
      obtain ⟨kc, hkc, hle, hld⟩ := hk2.load (List.getElem?_eq_getElem hi)
      have hdrop : ks.drop i = ks[i] :: ks.drop (i + 1) := List.drop_eq_getElem_cons hi
      rw [hdrop, hasK] at hr
      have hkm := List.getElem_mem hi
      have w3 : IntKind.i64.wrap ((i : Int) + 1) = (i : Int) + 1 := i64_ok _ (by omega)
      simp -implicitDefEqProofs only [go_sem, Nat.reduceEqDiff, Nat.reduceAdd, Nat.reduceLeDiff, ↓reduceIte, reduceCtorEq, Int.reduceBEq, Int.reduceBNe, Int.reduceLT, Int.reduceLE, Int.reduceGT, Int.reduceGE, Int.reduceNeg, Int.reduceAdd, Int.reduceSub, Nat.reduceMul, Nat.reduceLT, Int.reduceToNat, t1, t2, t5, hg, fun H => hk1.alen H, hltI, hix, hle, hld]
      refine i_callA (fs := []) (cs := []) (fid := 95) ?_ ?_ (ih ks[i] hkm (a5.mem _ hkm) _ hkc _) ?_
      · rfl
      · simp -implicitDefEqProofs only [go_sem, Nat.reduceEqDiff, Nat.reduceAdd, Nat.reduceLeDiff, ↓reduceIte, reduceCtorEq, Int.reduceBEq, Int.reduceBNe, Int.reduceLT, Int.reduceLE, Int.reduceGT, Int.reduceGE, Int.reduceNeg, Int.reduceAdd, Int.reduceSub, Nat.reduceMul, Nat.reduceLT, Int.reduceToNat]
      rintro x H3 ⟨rfl, rfl⟩
      cases hq : hasT nm ks[i] with
      | true =>
        rw [hq, if_pos rfl] at hr
        simp -implicitDefEqProofs only [go_sem, Nat.reduceEqDiff, Nat.reduceAdd, Nat.reduceLeDiff, ↓reduceIte, reduceCtorEq, Int.reduceBEq, Int.reduceBNe, Int.reduceLT, Int.reduceLE, Int.reduceGT, Int.reduceGE, Int.reduceNeg, Int.reduceAdd, Int.reduceSub, Nat.reduceMul, Nat.reduceLT, Int.reduceToNat]
        exact ⟨by rw [hr], hE⟩
      | false =>
        rw [hq, if_neg (by simp)] at hr
        simp -implicitDefEqProofs only [go_sem, Nat.reduceEqDiff, Nat.reduceAdd, Nat.reduceLeDiff, ↓reduceIte, reduceCtorEq, Int.reduceBEq, Int.reduceBNe, Int.reduceLT, Int.reduceLE, Int.reduceGT, Int.reduceGE, Int.reduceNeg, Int.reduceAdd, Int.reduceSub, Nat.reduceMul, Nat.reduceLT, Int.reduceToNat, t5, w3]
        exact ⟨t1, t2, by simp, hE, hg, hr⟩
    · rintro ⟨tm, H2⟩ ⟨t1, t2, t5, hE, hg, hr⟩
      simp only at t1 t2 t5 hE hg
      rw [List.drop_length, hasK] at hr
      simp -implicitDefEqProofs only [go_sem, Nat.reduceEqDiff, Nat.reduceAdd, Nat.reduceLeDiff, ↓reduceIte, reduceCtorEq, Int.reduceBEq, Int.reduceBNe, Int.reduceLT, Int.reduceLE, Int.reduceGT, Int.reduceGE, Int.reduceNeg, Int.reduceAdd, Int.reduceSub, Nat.reduceMul, Nat.reduceLT, Int.reduceToNat, t1, t2, t5, hg, fun H => hk1.alen H, Int.lt_irrefl]
      exact ⟨by rw [hr], hE⟩
  · simp -implicitDefEqProofs only [c95, go_sem, Nat.reduceEqDiff, Nat.reduceAdd, Nat.reduceLeDiff, ↓reduceIte, reduceCtorEq, Int.reduceBEq, Int.reduceBNe, Int.reduceLT, Int.reduceLE, Int.reduceGT, Int.reduceGE, Int.reduceNeg, Int.reduceAdd, Int.reduceSub, Nat.reduceMul, Nat.reduceLT, Int.reduceToNat, hl1.one, hl1.cells, hk1.one, hk1.cells, bne' hf]
    refine swp_range ks.length (fun i st => st.tm 1 = .v (.string nm) ∧ st.tm 2 = .ptr H.next 0 ∧ st.tm 5 = aint i ∧ Ext H st.heap ∧ st.heap.get H.next = some (.cells [aint f, aint n, abl hid, .v (.string s), lx, kx]) ∧ hasK nm ks = hasK nm (ks.drop i)) ?_ ?_ ?_
    · exact ⟨rfl, rfl, rfl, (Ext.refl H).new _, by rw [new_get, if_pos rfl], by simp⟩
    · rintro i ⟨tm, H2⟩ hi ⟨t1, t2, t5, hE, hg, hr⟩
      simp only at t1 t2 t5 hE hg
      have hltI : (i : Int) < (ks.length : Int) := by omega
      have hix := hk1.aix 6 hi
      obtain ⟨kc, hkc, hle, hld⟩ := hk2.load (List.getElem?_eq_getElem hi)
      have hdrop : ks.drop i = ks[i] :: ks.drop (i + 1) := List.drop_eq_getElem_cons hi
      rw [hdrop, hasK] at hr
      have hkm := List.getElem_mem hi
      have w3 : IntKind.i64.wrap ((i : Int) + 1) = (i : Int) + 1 := i64_ok _ (by omega)
      simp -implicitDefEqProofs only [go_sem, Nat.reduceEqDiff, Nat.reduceAdd, Nat.reduceLeDiff, ↓reduceIte, reduceCtorEq, Int.reduceBEq, Int.reduceBNe, Int.reduceLT, Int.reduceLE, Int.reduceGT, Int.reduceGE, Int.reduceNeg, Int.reduceAdd, Int.reduceSub, Nat.reduceMul, Nat.reduceLT, Int.reduceToNat, t1, t2, t5, hg, fun H => hk1.alen H, hltI, hix, hle, hld]
      refine i_callA (fs := []) (cs := []) (fid := 95) ?_ ?_ (ih ks[i] hkm (a5.mem _ hkm) _ hkc _) ?_
      · rfl
      · simp -implicitDefEqProofs only [go_sem, Nat.reduceEqDiff, Nat.reduceAdd, Nat.reduceLeDiff, ↓reduceIte, reduceCtorEq, Int.reduceBEq, Int.reduceBNe, Int.reduceLT, Int.reduceLE, Int.reduceGT, Int.reduceGE, Int.reduceNeg, Int.reduceAdd, Int.reduceSub, Nat.reduceMul, Nat.reduceLT, Int.reduceToNat]
      rintro x H3 ⟨rfl, rfl⟩
      cases hq : hasT nm ks[i] with
      | true =>
        rw [hq, if_pos rfl] at hr
        simp -implicitDefEqProofs only [go_sem, Nat.reduceEqDiff, Nat.reduceAdd, Nat.reduceLeDiff, ↓reduceIte, reduceCtorEq, Int.reduceBEq, Int.reduceBNe, Int.reduceLT, Int.reduceLE, Int.reduceGT, Int.reduceGE, Int.reduceNeg, Int.reduceAdd, Int.reduceSub, Nat.reduceMul, Nat.reduceLT, Int.reduceToNat]
        exact ⟨by rw [hr], hE⟩
      | false =>
        rw [hq, if_neg (by simp)] at hr
        simp -implicitDefEqProofs only [go_sem, Nat.reduceEqDiff, Nat.reduceAdd, Nat.reduceLeDiff, ↓reduceIte, reduceCtorEq, Int.reduceBEq, Int.reduceBNe, Int.reduceLT, Int.reduceLE, Int.reduceGT, Int.reduceGE, Int.reduceNeg, Int.reduceAdd, Int.reduceSub, Nat.reduceMul, Nat.reduceLT, Int.reduceToNat, t5, w3]
        exact ⟨t1, t2, by simp, hE, hg, hr⟩
    · rintro ⟨tm, H2⟩ ⟨t1, t2, t5, hE, hg, hr⟩
      simp only at t1 t2 t5 hE hg
      rw [List.drop_length, hasK] at hr
      simp -implicitDefEqProofs only [go_sem, Nat.reduceEqDiff, Nat.reduceAdd, Nat.reduceLeDiff, ↓reduceIte, reduceCtorEq, Int.reduceBEq, Int.reduceBNe, Int.reduceLT, Int.reduceLE, Int.reduceGT, Int.reduceGE, Int.reduceNeg, Int.reduceAdd, Int.reduceSub, Nat.reduceMul, Nat.reduceLT, Int.reduceToNat, t1, t2, t5, hg, fun H => hk1.alen H, Int.lt_irrefl]
      exact ⟨by rw [hr], hE⟩

set_option maxRecDepth 100000 in
theorem has2_ok (r : Lv → Bool) (nm : ByteArray) (t : Tm) (hall : Tm.All (Fine2 r) t) (hb : Tm.All TmB t) (cells : List AV) (hT : TmR t cells) (H : AHeap) :
    SCall Try.prog 42 [.agg cells, .v (.string nm)] H fun x H' => x = abl (hasF r nm t) ∧ H' = H := by
  refine SCall.val (SCall.intro mixed cf42 ?_)
  have hT' := hT
  obtain ⟨lx, kx, ls, cs, rfl, hl1, hl2, hk1, hk2⟩ := hT.six
  simp -implicitDefEqProofs only [c42, go_sem, Nat.reduceEqDiff, Nat.reduceAdd, Nat.reduceLeDiff, ↓reduceIte, reduceCtorEq, Int.reduceBEq, Int.reduceBNe, Int.reduceLT, Int.reduceLE, Int.reduceGT, Int.reduceGE, Int.reduceNeg, Int.reduceAdd, Int.reduceSub, Nat.reduceMul, Nat.reduceLT, Int.reduceToNat, hl1.one, hl1.cells, hk1.one, hk1.cells]
  refine i_callA (fs := []) (cs := []) ?_ ?_ (check2_ok r t hall _ hT' _) ?_
  · rfl
  · simp -implicitDefEqProofs only [go_sem, Nat.reduceEqDiff, Nat.reduceAdd, Nat.reduceLeDiff, ↓reduceIte, reduceCtorEq, Int.reduceBEq, Int.reduceBNe, Int.reduceLT, Int.reduceLE, Int.reduceGT, Int.reduceGE, Int.reduceNeg, Int.reduceAdd, Int.reduceSub, Nat.reduceMul, Nat.reduceLT, Int.reduceToNat]
  rintro x H3 ⟨rfl, rfl⟩
  rw [check_same]
  by_cases hc : checkF r t = 0
  · rw [hc]
    simp -implicitDefEqProofs only [go_sem, Nat.reduceEqDiff, Nat.reduceAdd, Nat.reduceLeDiff, ↓reduceIte, reduceCtorEq, Int.reduceBEq, Int.reduceBNe, Int.reduceLT, Int.reduceLE, Int.reduceGT, Int.reduceGE, Int.reduceNeg, Int.reduceAdd, Int.reduceSub, Nat.reduceMul, Nat.reduceLT, Int.reduceToNat]
    refine i_callA (fs := []) (cs := []) ?_ ?_ (has2T_ok nm t (tmb_kok t hb) _ hT' _) ?_
    · rfl
    · simp -implicitDefEqProofs only [go_sem, Nat.reduceEqDiff, Nat.reduceAdd, Nat.reduceLeDiff, ↓reduceIte, reduceCtorEq, Int.reduceBEq, Int.reduceBNe, Int.reduceLT, Int.reduceLE, Int.reduceGT, Int.reduceGE, Int.reduceNeg, Int.reduceAdd, Int.reduceSub, Nat.reduceMul, Nat.reduceLT, Int.reduceToNat]
    rintro x H3 ⟨rfl, rfl⟩
    simp -implicitDefEqProofs only [go_sem, Nat.reduceEqDiff, Nat.reduceAdd, Nat.reduceLeDiff, ↓reduceIte, reduceCtorEq, Int.reduceBEq, Int.reduceBNe, Int.reduceLT, Int.reduceLE, Int.reduceGT, Int.reduceGE, Int.reduceNeg, Int.reduceAdd, Int.reduceSub, Nat.reduceMul, Nat.reduceLT, Int.reduceToNat]
    exact ⟨by simp [hasF, hc], (Ext.refl H).new _⟩
  · simp -implicitDefEqProofs only [go_sem, Nat.reduceEqDiff, Nat.reduceAdd, Nat.reduceLeDiff, ↓reduceIte, reduceCtorEq, Int.reduceBEq, Int.reduceBNe, Int.reduceLT, Int.reduceLE, Int.reduceGT, Int.reduceGE, Int.reduceNeg, Int.reduceAdd, Int.reduceSub, Nat.reduceMul, Nat.reduceLT, Int.reduceToNat, bne' hc]
    exact ⟨by simp [hasF, hc], (Ext.refl H).new _⟩
end Go.Proofs.Ytooaiddfokbffaa.E

/- The law TermChecks, walked. Conditions: none. -/
set_option linter.unusedVariables false
set_option linter.unusedSimpArgs false
namespace Go.Proofs.Ytooaiddfokbffaa.E
open Go Go.Proofs
attribute [local go_sem] s_seq s_ops s_draw s_block s_skip s_ret s_exit i_nil i_cons i_run i_runG s_condQ c_true c_false aop ev_t ev_c updO_at updO_no upd_at t_normal t_ret t_exit b_normal b_ret b_exit a_some ac_v ac_agg ac_ptr ac_slc ac_ro ac_rop ac_fn new_next set_next argTm_zero argTm_succ argTm_nil ab_bool ab_uv beq_self_eq_true Option.some_beq_some Bool.not_not beq_iff_eq decide_true decide_false Bool.not_true Bool.not_false afld aload astore apack alen_str alen_ro alen_slc alen_nil new_get set_get ite_true ite_false Option.map_some Option.bind_some ibin isShift Nat.add_zero Nat.zero_add List.length_cons List.length_nil List.drop_zero List.drop_succ_cons List.take_succ_cons List.take_zero if_true if_false setL List.set_cons_zero List.set_cons_succ List.all_cons List.all_nil one_int one_bool one_str one_nil one_ptr one_slc one_ro one_rop one_fn Bool.and_self Bool.and_true true_and and_true and_self Bool.false_eq_true post_ret post_normal resAll resOne packR Option.some.injEq exists_eq_left' List.map_cons List.map_nil List.nil_append List.append_nil List.cons_append d_nil d_cons k_nil k_cons g_op g_same g_new avBlock forall_eq' List.getElem?_cons_succ List.getElem?_cons_zero List.getElem?_nil okind gOk bne false_imp_iff forall_const imp_self implies_true true_imp_iff i_callG

theorem all_mono {p q : Tm → Prop} (h : ∀ t, p t → q t) : ∀ t, Tm.All p t → Tm.All q t := by
  refine Tm.rule fun f n hd s lv ks ih ha => ?_
  simp only [Tm.All] at *
  refine ⟨h _ ha.1, ?_⟩
  have key : ∀ ks', (∀ k ∈ ks', k ∈ ks) → Tm.AllL q ks' := by
    intro ks'
    induction ks' with
    | nil => intro _; trivial
    | cons k r ih' => intro hm; exact ⟨ih k (hm k (List.mem_cons_self ..)) (ha.2.mem k (hm k (List.mem_cons_self ..))), ih' fun k hk => hm k (List.mem_cons_of_mem _ hk)⟩
  exact key ks fun _ h => h

theorem tmb_fine {t : Tm} (h : Tm.All TmB t) : Tm.All (Fine canF) t := all_mono (fun t ⟨_, _, h1, h2, h3, h4⟩ => ⟨by omega, by omega, fun l hl => can_ok l (by have := (h4 l hl).2.1; omega)⟩) t h
theorem tmb_fine2 {t : Tm} (h : Tm.All TmB t) : Tm.All (Fine2 canF) t := all_mono (fun t ⟨_, _, h1, h2, h3, h4⟩ => ⟨by omega, by omega, fun l hl => can2_ok l (by have := (h4 l hl).2.1; omega)⟩) t h

set_option maxRecDepth 100000 in
theorem law_checks (t : Tm) (hb : Tm.All TmB t) (cells : List AV) (hT : TmR t cells) (ho : ∀ y ∈ cells, Old 0 y) (nm : ByteArray) (H : AHeap) :
    SCall Try.prog 7 [.agg cells, .v (.string nm)] H fun x H' => x = abl true ∧ H' = H := by
  refine SCall.val (SCall.intro mixed cf7 ?_)
  have hT' := hT
  obtain ⟨lx, kx, ls, cs, rfl, hl1, hl2, hk1, hk2⟩ := hT.six
  have hf1 := tmb_fine hb
  have hf2 := tmb_fine2 hb
  simp -implicitDefEqProofs only [c7, go_sem, Nat.reduceEqDiff, Nat.reduceAdd, Nat.reduceLeDiff, ↓reduceIte, reduceCtorEq, Int.reduceBEq, Int.reduceBNe, Int.reduceLT, Int.reduceLE, Int.reduceGT, Int.reduceGE, Int.reduceNeg, Int.reduceAdd, Int.reduceSub, Nat.reduceMul, Nat.reduceLT, Int.reduceToNat, hl1.one, hl1.cells, hk1.one, hk1.cells]
  refine i_callA (fs := []) (cs := []) ?_ ?_ (alive2_ok _) ?_
  · rfl
  · simp -implicitDefEqProofs only [go_sem, Nat.reduceEqDiff, Nat.reduceAdd, Nat.reduceLeDiff, ↓reduceIte, reduceCtorEq, Int.reduceBEq, Int.reduceBNe, Int.reduceLT, Int.reduceLE, Int.reduceGT, Int.reduceGE, Int.reduceNeg, Int.reduceAdd, Int.reduceSub, Nat.reduceMul, Nat.reduceLT, Int.reduceToNat]
  rintro x H3 ⟨rfl, rfl⟩
  simp -implicitDefEqProofs only [go_sem, Nat.reduceEqDiff, Nat.reduceAdd, Nat.reduceLeDiff, ↓reduceIte, reduceCtorEq, Int.reduceBEq, Int.reduceBNe, Int.reduceLT, Int.reduceLE, Int.reduceGT, Int.reduceGE, Int.reduceNeg, Int.reduceAdd, Int.reduceSub, Nat.reduceMul, Nat.reduceLT, Int.reduceToNat]
  refine i_callA (fs := []) (cs := []) ?_ ?_ (big_ok t hb _ hT' _) ?_
  · rfl
  · simp -implicitDefEqProofs only [go_sem, Nat.reduceEqDiff, Nat.reduceAdd, Nat.reduceLeDiff, ↓reduceIte, reduceCtorEq, Int.reduceBEq, Int.reduceBNe, Int.reduceLT, Int.reduceLE, Int.reduceGT, Int.reduceGE, Int.reduceNeg, Int.reduceAdd, Int.reduceSub, Nat.reduceMul, Nat.reduceLT, Int.reduceToNat]
  rintro x H3 ⟨rfl, rfl⟩
  cases hbig : bigF t with
  | true =>
    simp -implicitDefEqProofs only [go_sem, Nat.reduceEqDiff, Nat.reduceAdd, Nat.reduceLeDiff, ↓reduceIte, reduceCtorEq, Int.reduceBEq, Int.reduceBNe, Int.reduceLT, Int.reduceLE, Int.reduceGT, Int.reduceGE, Int.reduceNeg, Int.reduceAdd, Int.reduceSub, Nat.reduceMul, Nat.reduceLT, Int.reduceToNat]
    exact (Ext.refl H).new _
  | false =>
  obtain ⟨hs1, hs2, hs3⟩ := big_small hbig
  simp -implicitDefEqProofs only [go_sem, Nat.reduceEqDiff, Nat.reduceAdd, Nat.reduceLeDiff, ↓reduceIte, reduceCtorEq, Int.reduceBEq, Int.reduceBNe, Int.reduceLT, Int.reduceLE, Int.reduceGT, Int.reduceGE, Int.reduceNeg, Int.reduceAdd, Int.reduceSub, Nat.reduceMul, Nat.reduceLT, Int.reduceToNat]
  refine i_callA (fs := []) (cs := []) ?_ ?_ (lent_ok t hs1 _ hT' ho _) ?_
  · rfl
  · simp -implicitDefEqProofs only [go_sem, Nat.reduceEqDiff, Nat.reduceAdd, Nat.reduceLeDiff, ↓reduceIte, reduceCtorEq, Int.reduceBEq, Int.reduceBNe, Int.reduceLT, Int.reduceLE, Int.reduceGT, Int.reduceGE, Int.reduceNeg, Int.reduceAdd, Int.reduceSub, Nat.reduceMul, Nat.reduceLT, Int.reduceToNat]
  rintro x H3 ⟨⟨c, rfl, hc1, hc2⟩, rfl⟩
  have hc3 := LentR.tm t c hc1
  obtain ⟨lx2, ls2, cs2, lo2, ex2, hc6, g1, g2, g3, g4⟩ := hc1.six
  have e1 : ¬ H.next = H.next + 1 := by omega
  have e2 : ¬ H.next + 1 = H.next := by omega
  subst hc6
  simp -implicitDefEqProofs only [go_sem, Nat.reduceEqDiff, Nat.reduceAdd, Nat.reduceLeDiff, ↓reduceIte, reduceCtorEq, Int.reduceBEq, Int.reduceBNe, Int.reduceLT, Int.reduceLE, Int.reduceGT, Int.reduceGE, Int.reduceNeg, Int.reduceAdd, Int.reduceSub, Nat.reduceMul, Nat.reduceLT, Int.reduceToNat, g1.one, g1.cells, e1, e2]
  refine i_callA (fs := []) (cs := []) ?_ ?_ (check_ok canF t hf1 _ hc3 _) ?_
  · rfl
  · simp -implicitDefEqProofs only [go_sem, Nat.reduceEqDiff, Nat.reduceAdd, Nat.reduceLeDiff, ↓reduceIte, reduceCtorEq, Int.reduceBEq, Int.reduceBNe, Int.reduceLT, Int.reduceLE, Int.reduceGT, Int.reduceGE, Int.reduceNeg, Int.reduceAdd, Int.reduceSub, Nat.reduceMul, Nat.reduceLT, Int.reduceToNat]
  rintro x H3 ⟨rfl, rfl⟩
  simp -implicitDefEqProofs only [go_sem, Nat.reduceEqDiff, Nat.reduceAdd, Nat.reduceLeDiff, ↓reduceIte, reduceCtorEq, Int.reduceBEq, Int.reduceBNe, Int.reduceLT, Int.reduceLE, Int.reduceGT, Int.reduceGE, Int.reduceNeg, Int.reduceAdd, Int.reduceSub, Nat.reduceMul, Nat.reduceLT, Int.reduceToNat, e1, e2]
  refine i_callA (fs := []) (cs := []) ?_ ?_ (stay_ok t hs1 _ _ hc1 hT' _) ?_
  · rfl
  · simp -implicitDefEqProofs only [go_sem, Nat.reduceEqDiff, Nat.reduceAdd, Nat.reduceLeDiff, ↓reduceIte, reduceCtorEq, Int.reduceBEq, Int.reduceBNe, Int.reduceLT, Int.reduceLE, Int.reduceGT, Int.reduceGE, Int.reduceNeg, Int.reduceAdd, Int.reduceSub, Nat.reduceMul, Nat.reduceLT, Int.reduceToNat]
  rintro x H3 ⟨rfl, rfl⟩
  simp -implicitDefEqProofs only [go_sem, Nat.reduceEqDiff, Nat.reduceAdd, Nat.reduceLeDiff, ↓reduceIte, reduceCtorEq, Int.reduceBEq, Int.reduceBNe, Int.reduceLT, Int.reduceLE, Int.reduceGT, Int.reduceGE, Int.reduceNeg, Int.reduceAdd, Int.reduceSub, Nat.reduceMul, Nat.reduceLT, Int.reduceToNat, e1, e2, g_opG]
  refine i_callA (fs := []) (cs := []) ?_ ?_ (num2_ok (checkF canF t) _) ?_
  · rfl
  · simp -implicitDefEqProofs only [go_sem, Nat.reduceEqDiff, Nat.reduceAdd, Nat.reduceLeDiff, ↓reduceIte, reduceCtorEq, Int.reduceBEq, Int.reduceBNe, Int.reduceLT, Int.reduceLE, Int.reduceGT, Int.reduceGE, Int.reduceNeg, Int.reduceAdd, Int.reduceSub, Nat.reduceMul, Nat.reduceLT, Int.reduceToNat]
  rintro x H3 ⟨rfl, rfl⟩
  simp -implicitDefEqProofs only [go_sem, Nat.reduceEqDiff, Nat.reduceAdd, Nat.reduceLeDiff, ↓reduceIte, reduceCtorEq, Int.reduceBEq, Int.reduceBNe, Int.reduceLT, Int.reduceLE, Int.reduceGT, Int.reduceGE, Int.reduceNeg, Int.reduceAdd, Int.reduceSub, Nat.reduceMul, Nat.reduceLT, Int.reduceToNat, e1, e2, g_opG]
  refine i_callA (fs := []) (cs := []) ?_ ?_ (check2_ok canF t hf2 _ hT' _) ?_
  · rfl
  · simp -implicitDefEqProofs only [go_sem, Nat.reduceEqDiff, Nat.reduceAdd, Nat.reduceLeDiff, ↓reduceIte, reduceCtorEq, Int.reduceBEq, Int.reduceBNe, Int.reduceLT, Int.reduceLE, Int.reduceGT, Int.reduceGE, Int.reduceNeg, Int.reduceAdd, Int.reduceSub, Nat.reduceMul, Nat.reduceLT, Int.reduceToNat]
  rintro x H3 ⟨rfl, rfl⟩
  rw [check_same]
  simp -implicitDefEqProofs only [go_sem, Nat.reduceEqDiff, Nat.reduceAdd, Nat.reduceLeDiff, ↓reduceIte, reduceCtorEq, Int.reduceBEq, Int.reduceBNe, Int.reduceLT, Int.reduceLE, Int.reduceGT, Int.reduceGE, Int.reduceNeg, Int.reduceAdd, Int.reduceSub, Nat.reduceMul, Nat.reduceLT, Int.reduceToNat, e1, e2, g_opG]
  refine i_callA (fs := []) (cs := []) ?_ ?_ (size_ok canF t hf1 _ hT' _) ?_
  · rfl
  · simp -implicitDefEqProofs only [go_sem, Nat.reduceEqDiff, Nat.reduceAdd, Nat.reduceLeDiff, ↓reduceIte, reduceCtorEq, Int.reduceBEq, Int.reduceBNe, Int.reduceLT, Int.reduceLE, Int.reduceGT, Int.reduceGE, Int.reduceNeg, Int.reduceAdd, Int.reduceSub, Nat.reduceMul, Nat.reduceLT, Int.reduceToNat]
  rintro x H3 ⟨rfl, rfl⟩
  simp -implicitDefEqProofs only [go_sem, Nat.reduceEqDiff, Nat.reduceAdd, Nat.reduceLeDiff, ↓reduceIte, reduceCtorEq, Int.reduceBEq, Int.reduceBNe, Int.reduceLT, Int.reduceLE, Int.reduceGT, Int.reduceGE, Int.reduceNeg, Int.reduceAdd, Int.reduceSub, Nat.reduceMul, Nat.reduceLT, Int.reduceToNat, e1, e2, g_opG]
  refine i_callA (fs := []) (cs := []) ?_ ?_ (size2_ok canF t hf2 _ hT' _) ?_
  · rfl
  · simp -implicitDefEqProofs only [go_sem, Nat.reduceEqDiff, Nat.reduceAdd, Nat.reduceLeDiff, ↓reduceIte, reduceCtorEq, Int.reduceBEq, Int.reduceBNe, Int.reduceLT, Int.reduceLE, Int.reduceGT, Int.reduceGE, Int.reduceNeg, Int.reduceAdd, Int.reduceSub, Nat.reduceMul, Nat.reduceLT, Int.reduceToNat]
  rintro x H3 ⟨rfl, rfl⟩
  rw [size_same]
  simp -implicitDefEqProofs only [go_sem, Nat.reduceEqDiff, Nat.reduceAdd, Nat.reduceLeDiff, ↓reduceIte, reduceCtorEq, Int.reduceBEq, Int.reduceBNe, Int.reduceLT, Int.reduceLE, Int.reduceGT, Int.reduceGE, Int.reduceNeg, Int.reduceAdd, Int.reduceSub, Nat.reduceMul, Nat.reduceLT, Int.reduceToNat, e1, e2, g_opG]
  refine i_callA (fs := []) (cs := []) ?_ ?_ (free_ok canF t hf1 hb (by omega) _ hT' _) ?_
  · rfl
  · simp -implicitDefEqProofs only [go_sem, Nat.reduceEqDiff, Nat.reduceAdd, Nat.reduceLeDiff, ↓reduceIte, reduceCtorEq, Int.reduceBEq, Int.reduceBNe, Int.reduceLT, Int.reduceLE, Int.reduceGT, Int.reduceGE, Int.reduceNeg, Int.reduceAdd, Int.reduceSub, Nat.reduceMul, Nat.reduceLT, Int.reduceToNat]
  rintro x H3 ⟨rfl, rfl⟩
  simp -implicitDefEqProofs only [go_sem, Nat.reduceEqDiff, Nat.reduceAdd, Nat.reduceLeDiff, ↓reduceIte, reduceCtorEq, Int.reduceBEq, Int.reduceBNe, Int.reduceLT, Int.reduceLE, Int.reduceGT, Int.reduceGE, Int.reduceNeg, Int.reduceAdd, Int.reduceSub, Nat.reduceMul, Nat.reduceLT, Int.reduceToNat, e1, e2, g_opG]
  refine i_callA (fs := []) (cs := []) ?_ ?_ (free2_ok canF t hf2 hb (by omega) _ hT' _) ?_
  · rfl
  · simp -implicitDefEqProofs only [go_sem, Nat.reduceEqDiff, Nat.reduceAdd, Nat.reduceLeDiff, ↓reduceIte, reduceCtorEq, Int.reduceBEq, Int.reduceBNe, Int.reduceLT, Int.reduceLE, Int.reduceGT, Int.reduceGE, Int.reduceNeg, Int.reduceAdd, Int.reduceSub, Nat.reduceMul, Nat.reduceLT, Int.reduceToNat]
  rintro x H3 ⟨rfl, rfl⟩
  simp -implicitDefEqProofs only [go_sem, Nat.reduceEqDiff, Nat.reduceAdd, Nat.reduceLeDiff, ↓reduceIte, reduceCtorEq, Int.reduceBEq, Int.reduceBNe, Int.reduceLT, Int.reduceLE, Int.reduceGT, Int.reduceGE, Int.reduceNeg, Int.reduceAdd, Int.reduceSub, Nat.reduceMul, Nat.reduceLT, Int.reduceToNat, e1, e2, g_opG]
  refine i_callA (fs := []) (cs := []) ?_ ?_ (has_ok canF nm t hf1 hb (by omega) _ hT' _) ?_
  · rfl
  · simp -implicitDefEqProofs only [go_sem, Nat.reduceEqDiff, Nat.reduceAdd, Nat.reduceLeDiff, ↓reduceIte, reduceCtorEq, Int.reduceBEq, Int.reduceBNe, Int.reduceLT, Int.reduceLE, Int.reduceGT, Int.reduceGE, Int.reduceNeg, Int.reduceAdd, Int.reduceSub, Nat.reduceMul, Nat.reduceLT, Int.reduceToNat]
  rintro x H3 ⟨rfl, rfl⟩
  simp -implicitDefEqProofs only [go_sem, Nat.reduceEqDiff, Nat.reduceAdd, Nat.reduceLeDiff, ↓reduceIte, reduceCtorEq, Int.reduceBEq, Int.reduceBNe, Int.reduceLT, Int.reduceLE, Int.reduceGT, Int.reduceGE, Int.reduceNeg, Int.reduceAdd, Int.reduceSub, Nat.reduceMul, Nat.reduceLT, Int.reduceToNat, e1, e2, g_opG]
  refine i_callA (fs := []) (cs := []) ?_ ?_ (has2_ok canF nm t hf2 hb _ hT' _) ?_
  · rfl
  · simp -implicitDefEqProofs only [go_sem, Nat.reduceEqDiff, Nat.reduceAdd, Nat.reduceLeDiff, ↓reduceIte, reduceCtorEq, Int.reduceBEq, Int.reduceBNe, Int.reduceLT, Int.reduceLE, Int.reduceGT, Int.reduceGE, Int.reduceNeg, Int.reduceAdd, Int.reduceSub, Nat.reduceMul, Nat.reduceLT, Int.reduceToNat]
  rintro x H3 ⟨rfl, rfl⟩
  simp -implicitDefEqProofs only [go_sem, Nat.reduceEqDiff, Nat.reduceAdd, Nat.reduceLeDiff, ↓reduceIte, reduceCtorEq, Int.reduceBEq, Int.reduceBNe, Int.reduceLT, Int.reduceLE, Int.reduceGT, Int.reduceGE, Int.reduceNeg, Int.reduceAdd, Int.reduceSub, Nat.reduceMul, Nat.reduceLT, Int.reduceToNat, BEq.rfl]
  exact (((Ext.refl H).new _).new _).set (by omega) _
end Go.Proofs.Ytooaiddfokbffaa.E

/- What is handed to a law, as abstract values. Conditions: none. -/
set_option linter.unusedVariables false
set_option linter.unusedSimpArgs false
namespace Go.Proofs.Ytooaiddfokbffaa.E
open Go Go.Proofs Go.ChangeShapes Go.WideShapes Go.ChangeAt Go.RowKit

section
variable {H : Type} {enc : TypeId × Value → H} {w : World} {base : Nat} {sp : Nat → Bool} {held : Bool}

theorem old0 {x : AV} {u : Value} (h : VRel Emb.empty w x u) : Old 0 x := h.old fun b c hm => by cases hm

theorem agg_of {v : Value} (h : v.cells.toList.length = 6) : ∃ cs : Array Value, v = .agg cs := by
  cases v <;> simp [Value.cells] at h
  exact ⟨_, rfl⟩

theorem term_arg {v : Value} {d : DataW H} {ps : List MemPlace} (h : DataW.Trod enc Try.prog w base sp held 25 v d ps) (hw : Wt Try.prog 25 d) :
    ∃ (t : Tm) (ys : List AV), Tm.All TmB t ∧ TmR t ys ∧ (∀ y ∈ ys, Old 0 y) ∧ VRel Emb.empty w (.agg ys) v := by
  obtain ⟨fuel, hf⟩ := h
  obtain ⟨t, ys, h1, h2, h3⟩ := trod_tm fuel _ d ps hf hw
  have hl : v.cells.toList.length = 6 := by rw [h3.1, h2.len]
  obtain ⟨cs, rfl⟩ := agg_of hl
  have hv : VRel Emb.empty w (.agg ys) (.agg cs) := .agg ys cs (by have := h3.1; simpa [Value.cells] using this) fun i x u hx hu => h3.2 i x u hx (by simpa [Value.cells] using hu)
  exact ⟨t, ys, h1, h2, (old0 hv).aggs, hv⟩

theorem wt_arg {ts : List TypeId} {ds : List (DataW H)} (hsz : (DataW.weightsEach Try.prog ts ds).all (· ≤ reachBytes) = true) {j : Nat} {t : TypeId} {d : DataW H} (ht : ts[j]? = some t) (hd : ds[j]? = some d) : Wt Try.prog t d := by
  intro n hn
  have := List.all_eq_true.1 hsz n (DataW.weights_mem_each ht hd n hn)
  simpa using this

theorem lrel_nil : LRel Emb.empty w [] [] := ⟨rfl, fun i x u h => by simp at h⟩

/-- From the abstract call to the law's own words. -/
theorem law_walk {f : FuncId} {args : List AV} {us : List Value} (h : SCall Try.prog f args AHeap.empty fun x H' => x = abl true ∧ H' = AHeap.empty) (hL : LRel Emb.empty w args us) :
    Calls Try.prog f us.toArray w fun e w' => e = .returned (.bool true) ∧ Below w.heap.size w w' := by
  refine (h.2 Emb.empty w us (HRel.none w) hL).mono fun en w' hp => ?_
  obtain ⟨u, x, H', e', rfl, h1, h2, h3, h4⟩ := hp
  obtain ⟨rfl, _⟩ := h1
  cases h3
  exact ⟨rfl, h4.os, h4.tape, h4.output, h4.size, fun k hk => h4.frame k hk (nohit k)⟩
end
theorem laidOut : laidOutB Try.prog = true := by kernel_rfl
theorem own : ownKnob Try.prog.godebug = none := by kernel_rfl
end Go.Proofs.Ytooaiddfokbffaa.E

/- Levels and a term's own fields, copied by the code. Conditions: none. -/
set_option linter.unusedVariables false
set_option linter.unusedSimpArgs false
namespace Go.Proofs.Ytooaiddfokbffaa.E
open Go Go.Proofs
attribute [local go_sem] s_seq s_ops s_draw s_block s_skip s_ret s_exit i_nil i_cons i_run i_runG s_condQ c_true c_false aop ev_t ev_c updO_at updO_no upd_at t_normal t_ret t_exit b_normal b_ret b_exit a_some ac_v ac_agg ac_ptr ac_slc ac_ro ac_rop ac_fn new_next set_next argTm_zero argTm_succ argTm_nil ab_bool ab_uv beq_self_eq_true Option.some_beq_some Bool.not_not beq_iff_eq decide_true decide_false Bool.not_true Bool.not_false afld aload astore apack alen_str alen_ro alen_slc alen_nil new_get set_get ite_true ite_false Option.map_some Option.bind_some ibin isShift Nat.add_zero Nat.zero_add List.length_cons List.length_nil List.drop_zero List.drop_succ_cons List.take_succ_cons List.take_zero if_true if_false setL List.set_cons_zero List.set_cons_succ List.all_cons List.all_nil one_int one_bool one_str one_nil one_ptr one_slc one_ro one_rop one_fn Bool.and_self Bool.and_true true_and and_true and_self Bool.false_eq_true post_ret post_normal resAll resOne packR Option.some.injEq exists_eq_left' List.map_cons List.map_nil List.nil_append List.append_nil List.cons_append d_nil d_cons k_nil k_cons g_op g_same g_new avBlock forall_eq' List.getElem?_cons_succ List.getElem?_cons_zero List.getElem?_nil okind gOk bne false_imp_iff forall_const imp_self implies_true true_imp_iff i_callG

theorem SlR.anil {n : Nat} {x : AV} {cs : List AV} (h : SlR n x cs) : anil .slice x = some (match x with | .v _ => true | _ => false) := by
  rcases h with ⟨rfl, rfl⟩ | ⟨lo, ex, rfl, _⟩ <;> rfl

theorem SlR.src2 {r : List (Int × Int)} {x : AV} {c : List AV} (q1 : SlR r.length x c) (q2 : VarsR r c) (G : AHeap) : asrc G 2 x = some (r.length, varsC r) := by
  rcases q1 with ⟨q, rfl⟩ | ⟨lo, ex, rfl, q⟩
  · rw [List.length_eq_zero_iff.1 q]; rfl
  · simp only [asrc]
    rw [if_pos q2.len, q2.pre]

set_option maxRecDepth 100000 in
theorem clone_ok (vars : List (Int × Int)) (x : AV) (cs : List AV) (h1 : SlR vars.length x cs) (h2 : VarsR vars cs) (hn : vars.length * 16 ≤ 140737488351232) (H : AHeap) :
    SCall Try.prog 211 [x] H fun y H' => SlV vars y ∧ H' = H := by
  have h1' := h1
  have main : SCall Try.prog 211 [x] H fun y H' => Ext H H' ∧ ((SlV vars y) ∨ ∃ b lo ex, y = .slc b 0 2 vars.length lo ex ∧ vars.length ≤ lo ∧ H.next ≤ b ∧ H'.get b = some (.cells (varsC vars))) := by
    refine SCall.intro mixed cf211 ?_
    rcases h1 with ⟨h0, rfl⟩ | ⟨lo, ex, rfl, hlo⟩
    · simp -implicitDefEqProofs only [c211, go_sem, Nat.reduceEqDiff, Nat.reduceAdd, Nat.reduceLeDiff, ↓reduceIte, reduceCtorEq, Int.reduceBEq, Int.reduceBNe, Int.reduceLT, Int.reduceLE, Int.reduceGT, Int.reduceGE, Int.reduceNeg, Int.reduceAdd, Int.reduceSub, Nat.reduceMul, Nat.reduceLT, Int.reduceToNat, anil]
      refine ⟨Ext.refl H, .inl ?_⟩
      rw [List.length_eq_zero_iff.1 h0]
      exact slv_nil
    · simp -implicitDefEqProofs only [c211, go_sem, Nat.reduceEqDiff, Nat.reduceAdd, Nat.reduceLeDiff, ↓reduceIte, reduceCtorEq, Int.reduceBEq, Int.reduceBNe, Int.reduceLT, Int.reduceLE, Int.reduceGT, Int.reduceGE, Int.reduceNeg, Int.reduceAdd, Int.reduceSub, Nat.reduceMul, Nat.reduceLT, Int.reduceToNat, anil, afill, List.replicate, List.flatten_nil]
      have hs := h1'.src2 h2 (H.new (.cells []))
      have hl2 := h2.len
      by_cases h0 : vars.length = 0
      · have hv : vars = [] := List.length_eq_zero_iff.1 h0
        subst hv
        have : aappend (H.new (.cells [])) 2 16 (.slc H.next 0 2 0 0 true) (.ro 0 lo ex cs) = some (.slc H.next 0 2 0 0 true, H.new (.cells [])) := by
          unfold aappend
          simp only [List.length_nil] at hs
          rw [hs]
          simp [varsC, new_get]
        simp -implicitDefEqProofs only [go_sem, Nat.reduceEqDiff, Nat.reduceAdd, Nat.reduceLeDiff, ↓reduceIte, reduceCtorEq, Int.reduceBEq, Int.reduceBNe, Int.reduceLT, Int.reduceLE, Int.reduceGT, Int.reduceGE, Int.reduceNeg, Int.reduceAdd, Int.reduceSub, Nat.reduceMul, Nat.reduceLT, Int.reduceToNat, this, List.length_nil]
        exact ⟨(Ext.refl H).new _, .inr ⟨H.next, 0, true, rfl, Nat.le_refl _, Nat.le_refl _, by simp [varsC]⟩⟩
      · have : aappend (H.new (.cells [])) 2 16 (.slc H.next 0 2 0 0 true) (.ro vars.length lo ex cs) = some (.slc (H.next + 1) 0 2 vars.length vars.length false, (H.new (.cells [])).new (.cells (varsC vars))) := by
          unfold aappend
          rw [hs]
          simp only
          rw [if_neg (by rw [varsC_one]; simp), new_get, if_pos rfl]
          simp only
          rw [if_pos ⟨trivial, by simp⟩, if_neg h0, if_neg (by omega), if_pos (by omega), if_pos trivial]
          simp [new_next]
        simp -implicitDefEqProofs only [go_sem, Nat.reduceEqDiff, Nat.reduceAdd, Nat.reduceLeDiff, ↓reduceIte, reduceCtorEq, Int.reduceBEq, Int.reduceBNe, Int.reduceLT, Int.reduceLE, Int.reduceGT, Int.reduceGE, Int.reduceNeg, Int.reduceAdd, Int.reduceSub, Nat.reduceMul, Nat.reduceLT, Int.reduceToNat, this]
        exact ⟨((Ext.refl H).new _).new _, .inr ⟨H.next + 1, _, _, rfl, Nat.le_refl _, by omega, by rw [if_pos rfl]⟩⟩
  refine main.frz fun _ _ y H' ⟨hE, h⟩ _ => ⟨hE, ?_⟩
  rcases h with h | ⟨b, lo, ex, rfl, hlo, hb, hg⟩
  · exact ⟨y, .keep _ (h.2.mono (Nat.zero_le _)), h⟩
  · refine ⟨.ro vars.length lo ex (varsC vars), .slc b 0 2 _ _ _ _ _ hg hb (by omega) (fun i x y hx hy => ?_), SlV.of (.inr ⟨lo, ex, rfl, hlo⟩)⟩
    rw [Nat.zero_add] at hx
    rw [hx] at hy
    injection hy with hy
    subst hy
    exact .keep _ (varsC_old _ _ _ (List.mem_of_getElem? hx))

/-- Levels in cells, one behind the other, none of them leading to a block. -/
def LvsX : List Lv → List AV → Prop
  | [], cs => cs = []
  | l :: r, cs => ∃ y cs', cs = aint l.n :: y :: cs' ∧ SlV l.vars y ∧ LvsX r cs'
theorem LvsX.len : ∀ {ls : List Lv} {cs : List AV}, LvsX ls cs → cs.length = ls.length * 2
  | [], cs, h => by simp only [LvsX] at h; subst h; rfl
  | l :: r, cs, h => by
    simp only [LvsX] at h
    obtain ⟨y, cs', rfl, _, h2⟩ := h
    have := LvsX.len h2
    simp; omega
theorem LvsX.old : ∀ {ls : List Lv} {cs : List AV}, LvsX ls cs → ∀ y ∈ cs, Old 0 y
  | [], cs, h, y, hy => by simp only [LvsX] at h; subst h; cases hy
  | l :: r, cs, h, y, hy => by
    simp only [LvsX] at h
    obtain ⟨z, cs', rfl, h1, h2⟩ := h
    rcases List.mem_cons.1 hy with rfl | hy
    · exact .v _
    rcases List.mem_cons.1 hy with rfl | hy
    · exact h1.2
    · exact LvsX.old h2 y hy
theorem LvsX.snoc : ∀ {ls : List Lv} {cs : List AV} {l : Lv} {y : AV}, LvsX ls cs → SlV l.vars y → LvsX (ls ++ [l]) (cs ++ [aint l.n, y])
  | [], cs, l, y, h, hy => by simp only [LvsX] at h; subst h; exact ⟨y, [], rfl, hy, rfl⟩
  | l0 :: r, cs, l, y, h, hy => by
    simp only [LvsX] at h
    obtain ⟨z, cs', rfl, h1, h2⟩ := h
    exact ⟨z, cs' ++ [aint l.n, y], rfl, h1, LvsX.snoc h2 hy⟩
theorem LvsX.rel : ∀ {ls : List Lv} {cs : List AV}, LvsX ls cs → LvsR ls cs
  | [], cs, h => trivial
  | l :: r, cs, h => by
    simp only [LvsX] at h
    obtain ⟨z, cs', rfl, ⟨⟨vs, h1, h3⟩, _⟩, h2⟩ := h
    exact ⟨⟨z, vs, rfl, h1, h3⟩, LvsX.rel h2⟩

/-- A row of levels that leads to no block. -/
def SlL (ls : List Lv) (x : AV) : Prop := (∃ cs, SlR ls.length x cs ∧ LvsR ls cs) ∧ Old 0 x
theorem SlL.of {ls : List Lv} {y : AV} {cs : List AV} (hc : LvsX ls cs) (h : (ls.length = 0 ∧ y = .v (.slice none 0 0)) ∨ ∃ lo ex, y = .ro ls.length lo ex cs ∧ ls.length ≤ lo) : SlL ls y := by
  refine ⟨⟨_, h, hc.rel⟩, ?_⟩
  rcases h with ⟨_, rfl⟩ | ⟨lo, ex, rfl, _⟩
  · exact .v _
  · exact .ro _ _ _ _ hc.old
theorem sll_nil : SlL [] nils := ⟨⟨[], .inl ⟨rfl, rfl⟩, trivial⟩, .v _⟩
theorem slv_one {vars : List (Int × Int)} {y : AV} (h : SlV vars y) : y.one = true := by obtain ⟨⟨cs, h, _⟩, _⟩ := h; exact h.one
theorem slv_cells {vars : List (Int × Int)} {y : AV} (h : SlV vars y) : y.acells = [y] := by obtain ⟨⟨cs, h, _⟩, _⟩ := h; exact h.cells

theorem OutS.notlow {H : AHeap} {base es n : Nat} {l : List AV} {x : AV} (h : OutS H base es n l x) {b : Nat} (hb : b < base) : ∀ off es' n' lo ex, x ≠ .slc b off es' n' lo ex := by
  intro off es' n' lo ex hx
  rcases h with ⟨_, _, rfl⟩ | ⟨b0, g1, g2, rfl, g3⟩
  · cases hx
  · injection hx with hx; omega

theorem OutS.nothere {H : AHeap} {base es n : Nat} {l : List AV} {x : AV} (h : OutS H base es n l x) : ∀ off es' n' lo ex, x ≠ .slc H.next off es' n' lo ex := by
  intro off es' n' lo ex hx
  rcases h with ⟨_, _, rfl⟩ | ⟨b0, g1, g2, rfl, g3⟩
  · cases hx
  · injection hx with hx; omega

set_option maxRecDepth 100000 in
theorem levelsCopy_ok (lv : List Lv) (lx : AV) (ls : List AV) (h1 : SlR lv.length lx ls) (h2 : LvsR lv ls) (hn : lv.length * 32 ≤ 140737488351232) (hv : ∀ l ∈ lv, l.vars.length * 16 ≤ 140737488351232) (H : AHeap) :
    SCall Try.prog 197 [lx] H fun y H' => SlL lv y ∧ H' = H := by
  have main : SCall Try.prog 197 [lx] H fun y H' => Ext H H' ∧ ∃ cs, LvsX lv cs ∧ OutS H' H.next 2 lv.length cs y := by
    refine SCall.intro mixed cf197 ?_
    simp -implicitDefEqProofs only [c197, go_sem, Nat.reduceEqDiff, Nat.reduceAdd, Nat.reduceLeDiff, ↓reduceIte, reduceCtorEq, Int.reduceBEq, Int.reduceBNe, Int.reduceLT, Int.reduceLE, Int.reduceGT, Int.reduceGE, Int.reduceNeg, Int.reduceAdd, Int.reduceSub, Nat.reduceMul, Nat.reduceLT, Int.reduceToNat, fun H => h1.alen H]
    refine swp_range lv.length (fun i st => st.tm 6 = lx ∧ st.tm 7 = aint lv.length ∧ st.tm 8 = aint i ∧ Ext H st.heap ∧ ∃ x cs, st.tm 3 = x ∧ LvsX (lv.take i) cs ∧ OutS st.heap H.next 2 i cs x) ?_ ?_ ?_
    · exact ⟨rfl, rfl, rfl, Ext.refl H, _, [], rfl, rfl, .nil⟩
    · rintro i ⟨tm, H2⟩ hi ⟨t6, t7, t8, hE, x, cs, t3, hX, hO⟩
      simp only at t3 t6 t7 t8 hE hO
      have hltI : (i : Int) < (lv.length : Int) := by omega
      have hix := h1.aix 2 hi
      obtain ⟨vx, vs, hle, hld, hv1, hv2⟩ := h2.at (List.getElem?_eq_getElem hi)
      have w3 : IntKind.i64.wrap ((i : Int) + 1) = (i : Int) + 1 := i64_ok _ (by omega)
      have hXl := hX.len
      rw [List.length_take, Nat.min_eq_left (by omega)] at hXl
      simp -implicitDefEqProofs only [go_sem, Nat.reduceEqDiff, Nat.reduceAdd, Nat.reduceLeDiff, ↓reduceIte, reduceCtorEq, Int.reduceBEq, Int.reduceBNe, Int.reduceLT, Int.reduceLE, Int.reduceGT, Int.reduceGE, Int.reduceNeg, Int.reduceAdd, Int.reduceSub, Nat.reduceMul, Nat.reduceLT, Int.reduceToNat, t3, t6, t7, t8, hltI, hix, hle, hld, hv1.one, hv1.cells]
      refine i_callA (fs := []) (cs := []) (fid := 211) ?_ ?_ (clone_ok lv[i].vars vx vs hv1 hv2 (hv _ (List.getElem_mem hi)) _) ?_
      · rfl
      · simp -implicitDefEqProofs only [go_sem, Nat.reduceEqDiff, Nat.reduceAdd, Nat.reduceLeDiff, ↓reduceIte, reduceCtorEq, Int.reduceBEq, Int.reduceBNe, Int.reduceLT, Int.reduceLE, Int.reduceGT, Int.reduceGE, Int.reduceNeg, Int.reduceAdd, Int.reduceSub, Nat.reduceMul, Nat.reduceLT, Int.reduceToNat]
      rintro y H3 ⟨hy, rfl⟩
      simp -implicitDefEqProofs only [go_sem, Nat.reduceEqDiff, Nat.reduceAdd, Nat.reduceLeDiff, ↓reduceIte, reduceCtorEq, Int.reduceBEq, Int.reduceBNe, Int.reduceLT, Int.reduceLE, Int.reduceGT, Int.reduceGE, Int.reduceNeg, Int.reduceAdd, Int.reduceSub, Nat.reduceMul, Nat.reduceLT, Int.reduceToNat, t3, t6, t7, t8, slv_one hy, slv_cells hy, afill]
      refine (((hO.new _).set hO.nothere _).new _).step (m := 1) (new := [aint lv[i].n, y]) (asrc_slc (c := [aint lv[i].n, y]) (by rw [new_get]; exact if_pos rfl) (by simp)) (by simp [slv_one hy, one_int]) (by omega) (by omega) ⟨by omega, by omega⟩ rfl (by rw [new_next, set_next, new_next]; have := hE.1; omega) fun x' G' q6 q7 q8 => ?_
      rw [new_next, set_next, new_next] at q7
      have hEG : Ext H G' := ⟨by have := hE.1; omega, fun b hb => by
        have hb2 := hE.1
        rw [q8 b (by rw [new_next, set_next, new_next]; omega) (hO.notlow (by omega)), new_get, if_neg (by rw [set_next, new_next]; omega), set_get, if_neg (by omega), new_get, if_neg (by omega)]
        exact hE.2 b hb⟩
      simp -implicitDefEqProofs only [go_sem, Nat.reduceEqDiff, Nat.reduceAdd, Nat.reduceLeDiff, ↓reduceIte, reduceCtorEq, Int.reduceBEq, Int.reduceBNe, Int.reduceLT, Int.reduceLE, Int.reduceGT, Int.reduceGE, Int.reduceNeg, Int.reduceAdd, Int.reduceSub, Nat.reduceMul, Nat.reduceLT, Int.reduceToNat, t8, w3]
      refine ⟨t6, t7, by simp, hEG, _, cs ++ [aint lv[i].n, y], rfl, ?_, q6⟩
      rw [List.take_succ_eq_append_getElem hi]
      exact hX.snoc hy
    · rintro ⟨tm, H2⟩ ⟨t6, t7, t8, hE, x, cs, t3, hX, hO⟩
      simp only at t3 t6 t7 t8 hE hO
      rw [List.take_length] at hX
      simp -implicitDefEqProofs only [go_sem, Nat.reduceEqDiff, Nat.reduceAdd, Nat.reduceLeDiff, ↓reduceIte, reduceCtorEq, Int.reduceBEq, Int.reduceBNe, Int.reduceLT, Int.reduceLE, Int.reduceGT, Int.reduceGE, Int.reduceNeg, Int.reduceAdd, Int.reduceSub, Nat.reduceMul, Nat.reduceLT, Int.reduceToNat, t3, t6, t7, t8, Int.lt_irrefl]
      exact ⟨hE, cs, hX, hO⟩
  refine main.frz fun _ _ y H' ⟨hE, cs, hX, hO⟩ _ => ⟨hE, ?_⟩
  obtain ⟨z, h3, h4⟩ := hO.frzOld (Nat.le_refl _) (fun y hy => (hX.old y hy).mono (Nat.zero_le _))
  exact ⟨z, h3, SlL.of hX h4⟩

def zeroS : ByteArray := ByteArray.mk #[]
/-- A term's own fields that its form has, without kids. -/
def bareT : Tm → Tm
  | .mk f n h s lv _ => .mk f (if f = 1 ∨ f = 11 then n else 0) (if f = 3 ∨ f = 4 ∨ f = 5 then h else false) (if f = 10 then s else zeroS) (if f = 2 ∨ f = 10 then lv else []) []

/-- A term in cells that lead to no block. -/
def TmP (t : Tm) (c : List AV) : Prop := TmR t c ∧ ∀ y ∈ c, Old 0 y

theorem tmp_bare {f n : Int} {h : Bool} {s : ByteArray} {lv : List Lv} {y : AV} (hy : SlL lv y) : TmP (.mk f n h s lv []) [aint f, aint n, abl h, .v (.string s), y, nils] := by
  obtain ⟨⟨cs, h1, h2⟩, h3⟩ := hy
  refine ⟨?_, fun z hz => ?_⟩
  · simp only [TmR]
    exact ⟨y, nils, cs, [], rfl, h1, h2, .inl ⟨rfl, rfl⟩, trivial⟩
  · simp at hz
    rcases hz with rfl | rfl | rfl | rfl | rfl | rfl
    · exact .v _
    · exact .v _
    · exact .v _
    · exact .v _
    · exact h3
    · exact .v _

set_option maxRecDepth 100000 in
theorem bare_ok (t : Tm) (hb : TmB t) (cells : List AV) (hT : TmR t cells) (H : AHeap) : SCall Try.prog 171 [.agg cells] H fun x H' => (∃ c, x = .agg c ∧ TmP (bareT t) c) ∧ H' = H := by
  obtain ⟨f, n, hid, s, lv, ks⟩ := t
  obtain ⟨lx, kx, ls, cs, rfl, hl1, hl2, hk1, hk2⟩ := hT.six
  simp only [TmB, Tm.form, Tm.n, Tm.hid, Tm.name, Tm.lv, Tm.kids] at *
  obtain ⟨_, _, a1, a2, a3, a4⟩ := hb
  have hlb : ∀ l ∈ lv, l.vars.length * 16 ≤ 140737488351232 := fun l hl => (a4 l hl).2.1
  have e1 : ¬ H.next = H.next + 1 := by omega
  have e2 : ¬ H.next + 1 = H.next := by omega
  have e3 : ¬ H.next = H.next + 1 + 1 := by omega
  have e4 : ¬ H.next + 1 = H.next + 1 + 1 := by omega
  have e5 : ¬ H.next + 1 + 1 = H.next := by omega
  have e6 : ¬ H.next + 1 + 1 = H.next + 1 := by omega
  have hE : ∀ o1 o2 o3 o4 o5 o6, Ext H ((((((H.new o1).new o2).new o3).set (H.next + 1 + 1) o4).set (H.next + 1 + 1) o5).set (H.next + 1) o6) := fun o1 o2 o3 o4 o5 o6 => (((((Ext.refl H).new _).new _).new _).set (by omega) _).set (by omega) _ |>.set (by omega) _
  have hE7 : ∀ o1 o2 o3 o4 o5 o6 o7, Ext H (((((((H.new o1).new o2).new o3).set (H.next + 1 + 1) o4).set (H.next + 1 + 1) o5).set (H.next + 1 + 1) o6).set (H.next + 1) o7) := fun o1 o2 o3 o4 o5 o6 o7 => (((((Ext.refl H).new _).new _).new _).set (by omega) _).set (by omega) _ |>.set (by omega) _ |>.set (by omega) _
  have hE4 : ∀ o1 o2 o3 o4 o5, Ext H (((((H.new o1).new o2).new o3).set (H.next + 1 + 1) o4).set (H.next + 1) o5) := fun o1 o2 o3 o4 o5 => (((((Ext.refl H).new _).new _).new _).set (by omega) _).set (by omega) _
  have main : SCall Try.prog 171 [.agg [aint f, aint n, abl hid, .v (.string s), lx, kx]] H fun x H' => (∃ c, x = .agg c ∧ TmP (bareT (.mk f n hid s lv ks)) c) ∧ Ext H H' := by
    refine SCall.intro mixed cf171 ?_
    by_cases c1 : f = 1 ∨ f = 11
    · have hbt : bareT (.mk f n hid s lv ks) = .mk f n false zeroS [] [] := by
        simp only [bareT]
        rcases c1 with rfl | rfl <;> rfl
      rw [hbt]
      rcases c1 with rfl | rfl
      · simp -implicitDefEqProofs only [c171, go_sem, Nat.reduceEqDiff, Nat.reduceAdd, Nat.reduceLeDiff, ↓reduceIte, reduceCtorEq, Int.reduceBEq, Int.reduceBNe, Int.reduceLT, Int.reduceLE, Int.reduceGT, Int.reduceGE, Int.reduceNeg, Int.reduceAdd, Int.reduceSub, Nat.reduceMul, Nat.reduceLT, Int.reduceToNat, hl1.one, hl1.cells, hk1.one, hk1.cells, afill, e1, e2, e3, e4, e5, e6]
        exact ⟨⟨_, rfl, tmp_bare sll_nil⟩, hE _ _ _ _ _ _⟩
      · simp -implicitDefEqProofs only [c171, go_sem, Nat.reduceEqDiff, Nat.reduceAdd, Nat.reduceLeDiff, ↓reduceIte, reduceCtorEq, Int.reduceBEq, Int.reduceBNe, Int.reduceLT, Int.reduceLE, Int.reduceGT, Int.reduceGE, Int.reduceNeg, Int.reduceAdd, Int.reduceSub, Nat.reduceMul, Nat.reduceLT, Int.reduceToNat, hl1.one, hl1.cells, hk1.one, hk1.cells, afill, e1, e2, e3, e4, e5, e6]
        exact ⟨⟨_, rfl, tmp_bare sll_nil⟩, hE _ _ _ _ _ _⟩
    by_cases c2 : f = 3 ∨ f = 4 ∨ f = 5
    · have hbt : bareT (.mk f n hid s lv ks) = .mk f 0 hid zeroS [] [] := by
        simp only [bareT]
        rcases c2 with rfl | rfl | rfl <;> rfl
      rw [hbt]
      rcases c2 with rfl | rfl | rfl
      · simp -implicitDefEqProofs only [c171, go_sem, Nat.reduceEqDiff, Nat.reduceAdd, Nat.reduceLeDiff, ↓reduceIte, reduceCtorEq, Int.reduceBEq, Int.reduceBNe, Int.reduceLT, Int.reduceLE, Int.reduceGT, Int.reduceGE, Int.reduceNeg, Int.reduceAdd, Int.reduceSub, Nat.reduceMul, Nat.reduceLT, Int.reduceToNat, hl1.one, hl1.cells, hk1.one, hk1.cells, afill, e1, e2, e3, e4, e5, e6]
        exact ⟨⟨_, rfl, tmp_bare sll_nil⟩, hE _ _ _ _ _ _⟩
      · simp -implicitDefEqProofs only [c171, go_sem, Nat.reduceEqDiff, Nat.reduceAdd, Nat.reduceLeDiff, ↓reduceIte, reduceCtorEq, Int.reduceBEq, Int.reduceBNe, Int.reduceLT, Int.reduceLE, Int.reduceGT, Int.reduceGE, Int.reduceNeg, Int.reduceAdd, Int.reduceSub, Nat.reduceMul, Nat.reduceLT, Int.reduceToNat, hl1.one, hl1.cells, hk1.one, hk1.cells, afill, e1, e2, e3, e4, e5, e6]
        exact ⟨⟨_, rfl, tmp_bare sll_nil⟩, hE _ _ _ _ _ _⟩
      · simp -implicitDefEqProofs only [c171, go_sem, Nat.reduceEqDiff, Nat.reduceAdd, Nat.reduceLeDiff, ↓reduceIte, reduceCtorEq, Int.reduceBEq, Int.reduceBNe, Int.reduceLT, Int.reduceLE, Int.reduceGT, Int.reduceGE, Int.reduceNeg, Int.reduceAdd, Int.reduceSub, Nat.reduceMul, Nat.reduceLT, Int.reduceToNat, hl1.one, hl1.cells, hk1.one, hk1.cells, afill, e1, e2, e3, e4, e5, e6]
        exact ⟨⟨_, rfl, tmp_bare sll_nil⟩, hE _ _ _ _ _ _⟩
    by_cases c3 : f = 2
    · subst c3
      have hbt : bareT (.mk 2 n hid s lv ks) = .mk 2 0 false zeroS lv [] := rfl
      rw [hbt]
      simp -implicitDefEqProofs only [c171, go_sem, Nat.reduceEqDiff, Nat.reduceAdd, Nat.reduceLeDiff, ↓reduceIte, reduceCtorEq, Int.reduceBEq, Int.reduceBNe, Int.reduceLT, Int.reduceLE, Int.reduceGT, Int.reduceGE, Int.reduceNeg, Int.reduceAdd, Int.reduceSub, Nat.reduceMul, Nat.reduceLT, Int.reduceToNat, hl1.one, hl1.cells, hk1.one, hk1.cells, afill, e1, e2, e3, e4, e5, e6]
      refine i_callA (fs := []) (cs := []) (fid := 197) ?_ ?_ (levelsCopy_ok lv lx ls hl1 hl2 a2 hlb _) ?_
      · rfl
      · simp -implicitDefEqProofs only [go_sem, Nat.reduceEqDiff, Nat.reduceAdd, Nat.reduceLeDiff, ↓reduceIte, reduceCtorEq, Int.reduceBEq, Int.reduceBNe, Int.reduceLT, Int.reduceLE, Int.reduceGT, Int.reduceGE, Int.reduceNeg, Int.reduceAdd, Int.reduceSub, Nat.reduceMul, Nat.reduceLT, Int.reduceToNat]
      rintro y H3 ⟨hy, rfl⟩
      obtain ⟨⟨ys, hy1, hy2⟩, hy3⟩ := id hy
      simp -implicitDefEqProofs only [go_sem, Nat.reduceEqDiff, Nat.reduceAdd, Nat.reduceLeDiff, ↓reduceIte, reduceCtorEq, Int.reduceBEq, Int.reduceBNe, Int.reduceLT, Int.reduceLE, Int.reduceGT, Int.reduceGE, Int.reduceNeg, Int.reduceAdd, Int.reduceSub, Nat.reduceMul, Nat.reduceLT, Int.reduceToNat, hy1.one, hy1.cells, e1, e2, e3, e4, e5, e6]
      exact ⟨⟨_, rfl, tmp_bare hy⟩, hE _ _ _ _ _ _⟩
    by_cases c4 : f = 10
    · subst c4
      have hbt : bareT (.mk 10 n hid s lv ks) = .mk 10 0 false s lv [] := rfl
      rw [hbt]
      simp -implicitDefEqProofs only [c171, go_sem, Nat.reduceEqDiff, Nat.reduceAdd, Nat.reduceLeDiff, ↓reduceIte, reduceCtorEq, Int.reduceBEq, Int.reduceBNe, Int.reduceLT, Int.reduceLE, Int.reduceGT, Int.reduceGE, Int.reduceNeg, Int.reduceAdd, Int.reduceSub, Nat.reduceMul, Nat.reduceLT, Int.reduceToNat, hl1.one, hl1.cells, hk1.one, hk1.cells, afill, e1, e2, e3, e4, e5, e6]
      refine i_callA (fs := []) (cs := []) (fid := 197) ?_ ?_ (levelsCopy_ok lv lx ls hl1 hl2 a2 hlb _) ?_
      · rfl
      · simp -implicitDefEqProofs only [go_sem, Nat.reduceEqDiff, Nat.reduceAdd, Nat.reduceLeDiff, ↓reduceIte, reduceCtorEq, Int.reduceBEq, Int.reduceBNe, Int.reduceLT, Int.reduceLE, Int.reduceGT, Int.reduceGE, Int.reduceNeg, Int.reduceAdd, Int.reduceSub, Nat.reduceMul, Nat.reduceLT, Int.reduceToNat]
      rintro y H3 ⟨hy, rfl⟩
      obtain ⟨⟨ys, hy1, hy2⟩, hy3⟩ := id hy
      simp -implicitDefEqProofs only [go_sem, Nat.reduceEqDiff, Nat.reduceAdd, Nat.reduceLeDiff, ↓reduceIte, reduceCtorEq, Int.reduceBEq, Int.reduceBNe, Int.reduceLT, Int.reduceLE, Int.reduceGT, Int.reduceGE, Int.reduceNeg, Int.reduceAdd, Int.reduceSub, Nat.reduceMul, Nat.reduceLT, Int.reduceToNat, hy1.one, hy1.cells, e1, e2, e3, e4, e5, e6]
      exact ⟨⟨_, rfl, tmp_bare hy⟩, hE7 _ _ _ _ _ _ _⟩
    · have hbt : bareT (.mk f n hid s lv ks) = .mk f 0 false zeroS [] [] := by
        simp only [bareT]
        rw [if_neg c1, if_neg c2, if_neg c4, if_neg (by rintro (h | h); exact c3 h; exact c4 h)]
      rw [hbt]
      simp -implicitDefEqProofs only [c171, go_sem, Nat.reduceEqDiff, Nat.reduceAdd, Nat.reduceLeDiff, ↓reduceIte, reduceCtorEq, Int.reduceBEq, Int.reduceBNe, Int.reduceLT, Int.reduceLE, Int.reduceGT, Int.reduceGE, Int.reduceNeg, Int.reduceAdd, Int.reduceSub, Nat.reduceMul, Nat.reduceLT, Int.reduceToNat, hl1.one, hl1.cells, hk1.one, hk1.cells, afill, e1, e2, e3, e4, e5, e6, bne' (fun h => c1 (.inl h)), bne' (fun h => c1 (.inr h)), bne' (fun h => c2 (.inl h)), bne' (fun h => c2 (.inr (.inl h))), bne' (fun h => c2 (.inr (.inr h))), bne' c3, bne' c4]
      exact ⟨⟨_, rfl, tmp_bare sll_nil⟩, hE4 _ _ _ _ _⟩
  refine main.frz fun _ _ x H' ⟨⟨c, hx, hc⟩, hE⟩ _ => ⟨hE, x, .keep _ ?_, c, hx, hc⟩
  subst hx
  exact .agg _ fun y hy => (hc.2 y hy).mono (Nat.zero_le _)
end Go.Proofs.Ytooaiddfokbffaa.E

/- A term made anew by the code's Map. Conditions: none. -/
set_option linter.unusedVariables false
set_option linter.unusedSimpArgs false
namespace Go.Proofs.Ytooaiddfokbffaa.E
open Go Go.Proofs

/-! ### Two blocks that are turned -/
def put2 (bl bb : Nat) (m : Int) (c : List AV) (G : AHeap) : AHeap := (G.set bl (.cells [aint m])).set bb (.cells c)
section
variable {bl bb : Nat} {m m' : Int} {c c' : List AV} {G H : AHeap}
theorem put2_get (x : Nat) : (put2 bl bb m c G).get x = if x = bb then some (.cells c) else if x = bl then some (.cells [aint m]) else G.get x := rfl
theorem put2_next : (put2 bl bb m c G).next = G.next := rfl
theorem put2_put2 (hne : bl ≠ bb) : put2 bl bb m' c' (put2 bl bb m c G) = put2 bl bb m' c' G := by
  cases G with
  | mk g n =>
    simp only [put2, AHeap.set, AHeap.mk.injEq, and_true]
    funext x
    by_cases h1 : x = bb
    · simp [h1]
    · by_cases h2 : x = bl
      · simp [h1, h2]
      · simp [h1, h2]
theorem put2_self (h1 : G.get bl = some (.cells [aint m])) (h2 : G.get bb = some (.cells c)) : put2 bl bb m c G = G := by
  unfold put2
  rw [AHeap.set_self h1, AHeap.set_self h2]
theorem set_put2 (hne : bl ≠ bb) (h2 : G.get bb = some (.cells c)) : G.set bl (.cells [aint m]) = put2 bl bb m c G := by
  unfold put2
  rw [AHeap.set_self (b := bb)]
  rw [set_get, if_neg (fun h => hne h.symm)]
  exact h2
theorem Ext.put2 (h : Ext (put2 bl bb m c H) G) : Ext (E.put2 bl bb m' c' H) (E.put2 bl bb m' c' G) := ⟨h.1, fun x hx => by
  rw [put2_get, put2_get]
  by_cases h1 : x = bb
  · rw [if_pos h1, if_pos h1]
  · by_cases h2 : x = bl
    · rw [if_neg h1, if_pos h2, if_neg h1, if_pos h2]
    · rw [if_neg h1, if_neg h2, if_neg h1, if_neg h2]
      have := h.2 x hx
      rwa [put2_get, if_neg h1, if_neg h2] at this⟩
theorem Ext.l2 (h : Ext (E.put2 bl bb m c H) G) (hne : bl ≠ bb) (hb : bl < H.next) : G.get bl = some (.cells [aint m]) := by
  rw [h.2 bl hb, put2_get, if_neg hne, if_pos rfl]
theorem Ext.b2 (h : Ext (E.put2 bl bb m c H) G) (hb : bb < H.next) : G.get bb = some (.cells c) := by
  rw [h.2 bb hb, put2_get, if_pos rfl]
theorem Ext.self2 (h1 : H.get bl = some (.cells [aint m])) (h2 : H.get bb = some (.cells c)) (h : Ext H G) : Ext (E.put2 bl bb m c H) G := by
  rw [put2_self h1 h2]; exact h
end

theorem SCall.frzAt2 {P : Program} {f : FuncId} {args : List AV} {H : AHeap} {R : AV → AHeap → Prop} {G : AV → Prop} (bl bb : Nat) (m : Int) (c : List AV) (hl : bl < H.next) (hb : bb < H.next) (hc : ∀ x ∈ c, Old 0 x) (h : SCall P f args H R)
    (ho : (∀ y, y ∈ args → Old H.next y) → WfH H → ∀ x H', R x H' → WfH H' → Ext (put2 bl bb m c H) H' ∧ ∃ y, FrzN H.next H' x y ∧ G y) : SCall P f args H fun y H' => G y ∧ H' = put2 bl bb m c H :=
  h.frzTo fun ha hw x H' hr hw' => by
    obtain ⟨⟨h1, h2⟩, y, h3, h4⟩ := ho ha hw x H' hr hw'
    refine ⟨put2 bl bb m c H, rfl, fun x o hx => ?_, h1, h2, fun x hx o hg => ?_, y, h3, h4, rfl⟩
    · rw [put2_get] at hx
      rw [put2_next]
      split at hx
      · omega
      · split at hx
        · omega
        · exact hw x o hx
    · rw [put2_get] at hg
      split at hg
      · injection hg with hg
        subst hg
        exact .inr (.cells _ fun y hy => (hc y hy).mono (Nat.zero_le _))
      · split at hg
        · injection hg with hg
          subst hg
          exact .inr (.cells _ fun y hy => by simp at hy; subst hy; exact .v _)
        · exact .inl hg

/-! ### What Map makes -/
def zeroTm : Tm := .mk 0 0 false zeroS [] []
def Tm.with : Tm → List Tm → Tm
  | .mk f n h s lv _, ks => .mk f n h s lv ks
abbrev MD := Tm → Int → Int → List AV → Option Tm × Int × List AV
section
variable (D : MD)
mutual
def mapT (deep m : Int) (c : List AV) : Tm → Tm × Int × List AV
  | .mk f n h s lv ks => if m - 1 < 0 then (zeroTm, m - 1, c) else
      match (D (.mk f n h s lv ks) deep (m - 1) c).1 with
      | some x => (x, (D (.mk f n h s lv ks) deep (m - 1) c).2.1, (D (.mk f n h s lv ks) deep (m - 1) c).2.2)
      | none => ((bareT (.mk f n h s lv ks)).with (mapK f 0 deep (D (.mk f n h s lv ks) deep (m - 1) c).2.1 (D (.mk f n h s lv ks) deep (m - 1) c).2.2 ks).1,
          (mapK f 0 deep (D (.mk f n h s lv ks) deep (m - 1) c).2.1 (D (.mk f n h s lv ks) deep (m - 1) c).2.2 ks).2)
def mapK (f : Int) (i : Nat) (deep m : Int) (c : List AV) : List Tm → List Tm × Int × List AV
  | [] => ([], m, c)
  | k :: r => ((mapT (underF f i deep) m c k).1 :: (mapK f (i + 1) deep (mapT (underF f i deep) m c k).2.1 (mapT (underF f i deep) m c k).2.2 r).1,
      (mapK f (i + 1) deep (mapT (underF f i deep) m c k).2.1 (mapT (underF f i deep) m c k).2.2 r).2)
end
end

theorem map_bound {D : MD} {W : Nat} (hD : ∀ t deep m c, m - W ≤ (D t deep m c).2.1 ∧ (D t deep m c).2.1 ≤ m) :
    ∀ t, ∀ deep m c, m - szT t * (W + 1) ≤ (mapT D deep m c t).2.1 ∧ (mapT D deep m c t).2.1 ≤ m := by
  refine Tm.rule fun f n hd s lv ks ih deep m c => ?_
  have hsz : ((szT (.mk f n hd s lv ks) : Nat) : Int) * (W + 1) = (W + 1) + szK ks * (W + 1) := by
    simp only [szT]
    push_cast
    rw [Int.add_mul, Int.one_mul]
  rw [hsz, mapT]
  have hpos : (0 : Int) ≤ szK ks * (W + 1) := Int.mul_nonneg (by omega) (by omega)
  by_cases h0 : m - 1 < 0
  · rw [if_pos h0]; simp only; omega
  rw [if_neg h0]
  obtain ⟨d1, d2⟩ := hD (.mk f n hd s lv ks) deep (m - 1) c
  split
  · simp only; omega
  · have key : ∀ ks', (∀ k ∈ ks', k ∈ ks) → ∀ (i : Nat) m c, m - szK ks' * (W + 1) ≤ (mapK D f i deep m c ks').2.1 ∧ (mapK D f i deep m c ks').2.1 ≤ m := by
      intro ks'
      induction ks' with
      | nil => intro _ i m c; simp [mapK, szK]
      | cons k r ih' =>
        intro hm i m c
        simp only [mapK, szK]
        obtain ⟨k1, k2⟩ := ih k (hm k (List.mem_cons_self ..)) (underF f i deep) m c
        obtain ⟨r1, r2⟩ := ih' (fun k hk => hm k (List.mem_cons_of_mem _ hk)) (i + 1) (mapT D (underF f i deep) m c k).2.1 (mapT D (underF f i deep) m c k).2.2
        push_cast
        rw [Int.add_mul]
        omega
    obtain ⟨r1, r2⟩ := key ks (fun _ h => h) 0 (D (.mk f n hd s lv ks) deep (m - 1) c).2.1 (D (.mk f n hd s lv ks) deep (m - 1) c).2.2
    simp only
    omega

theorem map_inv {D : MD} {Pt : Tm → Prop} {Inv : List AV → Prop} (hI : ∀ t deep m c, Pt t → Inv c → Inv (D t deep m c).2.2) :
    ∀ t, Tm.All Pt t → ∀ deep m c, Inv c → Inv (mapT D deep m c t).2.2 := by
  refine Tm.rule fun f n hd s lv ks ih ha deep m c hc => ?_
  simp only [Tm.All] at ha
  rw [mapT]
  split
  · exact hc
  have h0 := hI _ deep (m - 1) c ha.1 hc
  split
  · exact h0
  · have key : ∀ ks', (∀ k ∈ ks', k ∈ ks) → ∀ (i : Nat) m c, Inv c → Inv (mapK D f i deep m c ks').2.2 := by
      intro ks'
      induction ks' with
      | nil => intro _ i m c h; exact h
      | cons k r ih' =>
        intro hm i m c h
        simp only [mapK]
        exact ih' (fun k hk => hm k (List.mem_cons_of_mem _ hk)) (i + 1) _ _ (ih k (hm k (List.mem_cons_self ..)) (ha.2.mem k (hm k (List.mem_cons_self ..))) _ m c h)
    exact key ks (fun _ h => h) 0 _ _ h0

theorem ksR_of : ∀ (ks : List Tm) (l : List AV), l.length = ks.length * 6 → (∀ (i : Nat) (k : Tm), ks[i]? = some k → TmR k ((l.drop (i * 6)).take 6)) → KsR ks l
  | [], l, _, _ => trivial
  | k :: ks, l, hl, h => by
    simp only [List.length_cons] at hl
    simp only [KsR]
    have h0 := h 0 k rfl
    rw [Nat.zero_mul, List.drop_zero] at h0
    refine ⟨h0, ksR_of ks (l.drop 6) (by rw [List.length_drop]; omega) fun i k' hk => ?_⟩
    have := h (i + 1) k' (by simpa using hk)
    rw [List.drop_drop, show 6 + i * 6 = (i + 1) * 6 by omega]
    exact this

theorem TmP.six {t : Tm} {c : List AV} (h : TmP t c) : ∃ lx kx, c = [aint t.form, aint t.n, abl t.hid, .v (.string t.name), lx, kx] ∧ lx.one = true ∧ kx.one = true ∧ lx.acells = [lx] ∧ kx.acells = [kx] ∧ Old 0 lx ∧ Old 0 kx ∧ c.length = 6 ∧ c.all AV.one = true := by
  obtain ⟨lx, kx, ls, cs, rfl, h1, h2, h3, h4⟩ := h.1.six
  exact ⟨lx, kx, rfl, h1.one, h3.one, h1.cells, h3.cells, h.2 lx (by simp), h.2 kx (by simp), rfl, by simp [h1.one, h3.one, one_int, one_bool, one_str]⟩

abbrev z6 : List AV := [aint 0, aint 0, abl false, nostr, nils, nils]
theorem tmp_zero : TmP zeroTm z6 := tmp_bare sll_nil

theorem make_kids (n : Nat) (hn : n * 88 ≤ 140737488351232) (G : AHeap) : amake z6 88 G (aint n) (aint n) = some (.slc G.next 0 6 n n true, G.new (.cells (List.replicate n z6).flatten)) := by
  simp only [amake]
  rw [if_pos ⟨by omega, by omega, by omega, by omega, by simp⟩]
  simp

end Go.Proofs.Ytooaiddfokbffaa.E

/- The code's Map makes what it should. Conditions: none. -/
set_option linter.unusedVariables false
set_option linter.unusedSimpArgs false
namespace Go.Proofs.Ytooaiddfokbffaa.E
open Go Go.Proofs
attribute [local go_sem] s_seq s_ops s_draw s_block s_skip s_ret s_exit i_nil i_cons i_run i_runG s_condQ c_true c_false aop ev_t ev_c updO_at updO_no upd_at t_normal t_ret t_exit b_normal b_ret b_exit a_some ac_v ac_agg ac_ptr ac_slc ac_ro ac_rop ac_fn new_next set_next argTm_zero argTm_succ argTm_nil ab_bool ab_uv beq_self_eq_true Option.some_beq_some Bool.not_not beq_iff_eq decide_true decide_false Bool.not_true Bool.not_false afld aload astore apack alen_str alen_ro alen_slc alen_nil new_get set_get ite_true ite_false Option.map_some Option.bind_some ibin isShift Nat.add_zero Nat.zero_add List.length_cons List.length_nil List.drop_zero List.drop_succ_cons List.take_succ_cons List.take_zero if_true if_false setL List.set_cons_zero List.set_cons_succ List.all_cons List.all_nil one_int one_bool one_str one_nil one_ptr one_slc one_ro one_rop one_fn Bool.and_self Bool.and_true true_and and_true and_self Bool.false_eq_true post_ret post_normal resAll resOne packR Option.some.injEq exists_eq_left' List.map_cons List.map_nil List.nil_append List.append_nil List.cons_append d_nil d_cons k_nil k_cons g_op g_same g_new avBlock forall_eq' List.getElem?_cons_succ List.getElem?_cons_zero List.getElem?_nil okind gOk bne false_imp_iff forall_const imp_self implies_true true_imp_iff i_callG

theorem frz_kids {N : Nat} {H' : AHeap} {a1 a2 a3 a4 a5 : AV} (o1 : Old 0 a1) (o2 : Old 0 a2) (o3 : Old 0 a3) (o4 : Old 0 a4) (o5 : Old 0 a5) {b n lo : Nat} {ex : Bool} {l : List AV} (hg : H'.get b = some (.cells l)) (hb : N ≤ b) (hold : ∀ y ∈ l, Old 0 y) :
    FrzN N H' (.agg [a1, a2, a3, a4, a5, .slc b 0 6 n lo ex]) (.agg [a1, a2, a3, a4, a5, .ro n lo ex l]) := by
  refine FrzN.six (.keep _ (o1.mono (Nat.zero_le _))) (.keep _ (o2.mono (Nat.zero_le _))) (.keep _ (o3.mono (Nat.zero_le _))) (.keep _ (o4.mono (Nat.zero_le _))) (.keep _ (o5.mono (Nat.zero_le _))) ?_
  refine .slc b 0 6 _ _ _ l l hg hb (by omega) fun i x y hx hy => ?_
  rw [Nat.zero_add] at hx
  rw [hx] at hy
  injection hy with hy
  subst hy
  exact .keep _ ((hold x (List.mem_of_getElem? hx)).mono (Nat.zero_le _))

set_option maxRecDepth 100000 in
theorem map_ok {fid : FuncId} {fs cap : List AV} {bl bb : Nat} (hne : bl ≠ bb) {D : MD} {Pt : Tm → Prop} {Inv : List AV → Prop} {W : Nat}
    (hP : ∀ t, Pt t → TmB t) (hD : ∀ t deep m c, m - W ≤ (D t deep m c).2.1 ∧ (D t deep m c).2.1 ≤ m) (hI : ∀ t deep m c, Pt t → Inv c → Inv (D t deep m c).2.2) (hInv : ∀ c, Inv c → ∀ x ∈ c, Old 0 x)
    (hspec : ∀ (t : Tm) (cells : List AV) (deep m : Int) (c : List AV) (G : AHeap), Pt t → TmP t cells → 0 ≤ deep → deep ≤ 4611686018427387904 → 0 ≤ m → m ≤ 2305843009213693952 → -2305843009213693952 ≤ m - W → Inv c →
      G.get bl = some (.cells [aint m]) → G.get bb = some (.cells c) → bl < G.next → bb < G.next →
      SCall Try.prog fid (fs ++ ([.agg cells, aint deep] ++ cap)) G fun x H' => (∃ xc, x = .tup [.agg xc, abl (D t deep m c).1.isSome] ∧ TmP ((D t deep m c).1.getD zeroTm) xc) ∧ H' = put2 bl bb (D t deep m c).2.1 (D t deep m c).2.2 G) :
    ∀ t, Tm.All Pt t → ∀ (cells : List AV), TmP t cells → ∀ (deep m : Int) (c : List AV), 0 ≤ deep → deep + htT t ≤ 4611686018427387904 → -2305843009213693952 ≤ m - szT t * (W + 1) → m ≤ 2305843009213693952 → Inv c →
      ∀ (H : AHeap), H.get bl = some (.cells [aint m]) → H.get bb = some (.cells c) → bl < H.next → bb < H.next →
      SCall Try.prog 123 [.agg cells, aint deep, .ptr bl 0, .fn (.func fid) fs cap] H fun x H' => (∃ xc, x = .agg xc ∧ TmP (mapT D deep m c t).1 xc) ∧ H' = put2 bl bb (mapT D deep m c t).2.1 (mapT D deep m c t).2.2 H := by
  refine Tm.rule fun f n hid s lv ks ih ha cells hT deep m c hd0 hd1 hm0 hm1 hc H hgl hgb hl hb => ?_
  have hT' := hT
  have hfin := hInv _ (map_inv hI _ ha deep m c hc)
  have hTc := hT.1
  obtain ⟨lx, kx, ls, cs, rfl, hl1, hl2, hk1, hk2⟩ := hTc.six
  simp only [Tm.All, Tm.form, Tm.n, Tm.hid, Tm.name, Tm.lv, Tm.kids] at *
  obtain ⟨a1, a5⟩ := ha
  have hTB := hP _ a1
  have hTB' := hTB
  simp only [TmB, Tm.form, Tm.n, Tm.name, Tm.lv, Tm.kids] at hTB'
  obtain ⟨_, _, b1, b2, b3, b4⟩ := hTB'
  have hsz : ((szT (.mk f n hid s lv ks) : Nat) : Int) * (W + 1) = (W + 1) + szK ks * (W + 1) := by
    simp only [szT]; push_cast; rw [Int.add_mul, Int.one_mul]
  rw [hsz] at hm0
  have hpos : (0 : Int) ≤ szK ks * (W + 1) := Int.mul_nonneg (by omega) (by omega)
  have hht : htT (.mk f n hid s lv ks) = 1 + htK ks := by simp only [htT]
  rw [hht] at hd1
  have n1 : ¬ bl = H.next := by omega
  have n2 : ¬ bl = H.next + 1 := by omega
  have n3 : ¬ bb = H.next := by omega
  have n4 : ¬ bb = H.next + 1 := by omega
  have n1' : ¬ H.next = bl := by omega
  have n2' : ¬ H.next + 1 = bl := by omega
  have e1 : ¬ H.next + 1 = H.next := by omega
  have e2 : ¬ H.next = H.next + 1 := by omega
  have w1 : IntKind.i64.wrap (m - 1) = m - 1 := i64_ok _ (by omega)
  refine SCall.frzAt2 bl bb _ _ hl hb hfin (R := fun x H' => Ext (put2 bl bb (mapT D deep m c (.mk f n hid s lv ks)).2.1 (mapT D deep m c (.mk f n hid s lv ks)).2.2 H) H' ∧ ∃ y, FrzN H.next H' x y ∧ ∃ xc, y = .agg xc ∧ TmP (mapT D deep m c (.mk f n hid s lv ks)).1 xc) (SCall.intro mixed cf123 ?_) (fun _ _ x H' ⟨h1, y, h2, h3⟩ _ => ⟨h1, y, h2, h3⟩)
  have keepP : ∀ {t : Tm} {xc : List AV} {H' : AHeap}, TmP t xc → ∃ y, FrzN H.next H' (.agg xc) y ∧ ∃ xc', y = .agg xc' ∧ TmP t xc' := fun {t xc H'} h => ⟨_, .keep _ (.agg _ fun y hy => (h.2 y hy).mono (Nat.zero_le _)), _, rfl, h⟩
  have hE0 : ∀ o1 o2, Ext (put2 bl bb (m - 1) c H) (((H.new o1).new o2).set bl (.cells [aint (m - 1)])) := fun o1 o2 => by
    have h2 : Ext (put2 bl bb m c H) ((H.new o1).new o2) := Ext.self2 hgl hgb (((Ext.refl H).new o1).new o2)
    rw [set_put2 (c := c) hne (h2.b2 hb)]
    exact h2.put2
  rw [mapT]
  by_cases h0 : m - 1 < 0
  · rw [if_pos h0]
    simp -implicitDefEqProofs only [c123, go_sem, Nat.reduceEqDiff, Nat.reduceAdd, Nat.reduceLeDiff, ↓reduceIte, reduceCtorEq, Int.reduceBEq, Int.reduceBNe, Int.reduceLT, Int.reduceLE, Int.reduceGT, Int.reduceGE, Int.reduceNeg, Int.reduceAdd, Int.reduceSub, Nat.reduceMul, Nat.reduceLT, Int.reduceToNat, hl1.one, hl1.cells, hk1.one, hk1.cells, e1, e2, n1, n2, n1', n2', hgl, w1, h0, afill]
    exact ⟨(hE0 _ _).set (by rw [put2_next]; omega) _, keepP tmp_zero⟩
  rw [if_neg h0]
  simp -implicitDefEqProofs only [c123, go_sem, Nat.reduceEqDiff, Nat.reduceAdd, Nat.reduceLeDiff, ↓reduceIte, reduceCtorEq, Int.reduceBEq, Int.reduceBNe, Int.reduceLT, Int.reduceLE, Int.reduceGT, Int.reduceGE, Int.reduceNeg, Int.reduceAdd, Int.reduceSub, Nat.reduceMul, Nat.reduceLT, Int.reduceToNat, hl1.one, hl1.cells, hk1.one, hk1.cells, e1, e2, n1, n2, n1', n2', hgl, w1, h0]
  -- the call of what does
  generalize hG3 : (((H.new (.cells [aint f, aint n, abl hid, .v (.string s), lx, kx])).new (.cells [aint 0, aint 0, abl false, nostr, nils, nils])).set bl (.cells [aint (m - 1)])) = G3
  have hEG : Ext (put2 bl bb (m - 1) c H) G3 := by rw [← hG3]; exact hE0 _ _
  have g30 : G3.get H.next = some (.cells [aint f, aint n, abl hid, .v (.string s), lx, kx]) := by rw [← hG3]; simp -implicitDefEqProofs only [go_sem, Nat.reduceEqDiff, Nat.reduceAdd, Nat.reduceLeDiff, ↓reduceIte, reduceCtorEq, Int.reduceBEq, Int.reduceBNe, Int.reduceLT, Int.reduceLE, Int.reduceGT, Int.reduceGE, Int.reduceNeg, Int.reduceAdd, Int.reduceSub, Nat.reduceMul, Nat.reduceLT, Int.reduceToNat, n1', e2]
  have g31 : G3.get (H.next + 1) = some (.cells z6) := by rw [← hG3]; simp -implicitDefEqProofs only [go_sem, Nat.reduceEqDiff, Nat.reduceAdd, Nat.reduceLeDiff, ↓reduceIte, reduceCtorEq, Int.reduceBEq, Int.reduceBNe, Int.reduceLT, Int.reduceLE, Int.reduceGT, Int.reduceGE, Int.reduceNeg, Int.reduceAdd, Int.reduceSub, Nat.reduceMul, Nat.reduceLT, Int.reduceToNat, n2']
  have g3n : G3.next = H.next + 2 := by rw [← hG3]; rfl
  obtain ⟨d1, d2⟩ := hD (.mk f n hid s lv ks) deep (m - 1) c
  refine i_callA (fid := fid) (fs := fs) (cs := cap) ?_ ?_ (hspec (.mk f n hid s lv ks) _ deep (m - 1) c G3 a1 hT' hd0 (by omega) (by omega) (by omega) (by omega) hc (hEG.l2 hne hl) (hEG.b2 hb) (by omega) (by omega)) ?_
  · rfl
  · simp -implicitDefEqProofs only [go_sem, Nat.reduceEqDiff, Nat.reduceAdd, Nat.reduceLeDiff, ↓reduceIte, reduceCtorEq, Int.reduceBEq, Int.reduceBNe, Int.reduceLT, Int.reduceLE, Int.reduceGT, Int.reduceGE, Int.reduceNeg, Int.reduceAdd, Int.reduceSub, Nat.reduceMul, Nat.reduceLT, Int.reduceToNat]
  rintro x H3 ⟨⟨xc, rfl, hxc⟩, rfl⟩
  have hc1 := hI (.mk f n hid s lv ks) deep (m - 1) c a1 hc
  generalize hdm : D (.mk f n hid s lv ks) deep (m - 1) c = dr at *
  obtain ⟨o, m1, c1⟩ := dr
  simp only at hxc d1 d2 hc1 ⊢
  generalize hG4 : put2 bl bb m1 c1 G3 = G4
  have hEG4 : Ext (put2 bl bb m1 c1 H) G4 := by rw [← hG4]; exact hEG.put2
  have g40 : G4.get H.next = some (.cells [aint f, aint n, abl hid, .v (.string s), lx, kx]) := by
    rw [← hG4, put2_get, if_neg (by omega), if_neg (by omega)]; exact g30
  have g41 : G4.get (H.next + 1) = some (.cells z6) := by
    rw [← hG4, put2_get, if_neg (by omega), if_neg (by omega)]; exact g31
  have g4n : G4.next = H.next + 2 := by rw [← hG4]; exact g3n
  obtain ⟨ax, bx, hx6, p1, p2, p3, p4, p5, p6, p7, p8⟩ := hxc.six
  have q0 : ¬ H.next = G4.next := by omega
  have q1 : ¬ H.next + 1 = G4.next := by omega
  have q2 : ¬ G4.next = H.next + 1 := by omega
  have q3 : ¬ G4.next = H.next := by omega
  cases o with
  | some t2 =>
    simp only [Option.isSome_some, Option.getD_some] at hxc hx6 ⊢
    subst hx6
    simp -implicitDefEqProofs only [go_sem, Nat.reduceEqDiff, Nat.reduceAdd, Nat.reduceLeDiff, ↓reduceIte, reduceCtorEq, Int.reduceBEq, Int.reduceBNe, Int.reduceLT, Int.reduceLE, Int.reduceGT, Int.reduceGE, Int.reduceNeg, Int.reduceAdd, Int.reduceSub, Nat.reduceMul, Nat.reduceLT, Int.reduceToNat, q0, q1, q2, q3, g40, g41, p1, p2, p3, p4]
    exact ⟨((hEG4.new _).set (by rw [put2_next]; omega) _).set (by rw [put2_next]; omega) _, keepP hxc⟩
  | none =>
  simp only [Option.isSome_none, Option.getD_none] at hxc hx6 ⊢
  subst hx6
  simp -implicitDefEqProofs only [go_sem, Nat.reduceEqDiff, Nat.reduceAdd, Nat.reduceLeDiff, ↓reduceIte, reduceCtorEq, Int.reduceBEq, Int.reduceBNe, Int.reduceLT, Int.reduceLE, Int.reduceGT, Int.reduceGE, Int.reduceNeg, Int.reduceAdd, Int.reduceSub, Nat.reduceMul, Nat.reduceLT, Int.reduceToNat, q0, q1, q2, q3, g40, g41, p1, p2, p3, p4]
  refine i_callA (fid := 171) (fs := []) (cs := []) ?_ ?_ (bare_ok (.mk f n hid s lv ks) hTB _ hTc _) ?_
  · rfl
  · simp -implicitDefEqProofs only [go_sem, Nat.reduceEqDiff, Nat.reduceAdd, Nat.reduceLeDiff, ↓reduceIte, reduceCtorEq, Int.reduceBEq, Int.reduceBNe, Int.reduceLT, Int.reduceLE, Int.reduceGT, Int.reduceGE, Int.reduceNeg, Int.reduceAdd, Int.reduceSub, Nat.reduceMul, Nat.reduceLT, Int.reduceToNat]
  rintro x H3 ⟨⟨bc, rfl, hbc⟩, rfl⟩
  obtain ⟨ay, byx, lls, bcs, hb6, w2, w3, w4, w5⟩ := hbc.1.six
  have oay : Old 0 ay := hbc.2 ay (by rw [hb6]; simp)
  have hbf : (bareT (.mk f n hid s lv ks)).kids = [] := rfl
  generalize hbt : bareT (.mk f n hid s lv ks) = bt at *
  have s0 : ¬ H.next = G4.next + 1 := by omega
  have s1 : ¬ H.next + 1 = G4.next + 1 := by omega
  have s2 : ¬ G4.next + 1 = H.next := by omega
  have s3 : ¬ G4.next + 1 = H.next + 1 := by omega
  have s4 : ¬ G4.next + 1 = G4.next := by omega
  have s5 : ¬ G4.next = G4.next + 1 := by omega
  have t0 : ¬ H.next = G4.next + 1 + 1 := by omega
  have t1 : ¬ H.next + 1 = G4.next + 1 + 1 := by omega
  have t2 : ¬ G4.next + 1 = G4.next + 1 + 1 := by omega
  have t3 : ¬ G4.next + 1 + 1 = G4.next + 1 := by omega
  have t4 : ¬ G4.next + 1 + 1 = H.next := by omega
  have t5 : ¬ G4.next = G4.next + 1 + 1 := by omega
  have hob : ∀ {G : AHeap} {m' : Int} {c' : List AV}, Ext (put2 bl bb m' c' H) G → H.next ≤ G.next := fun {G m' c'} h => h.1
  subst hb6
  by_cases hn0 : ks.length = 0
  · have hks : ks = [] := List.length_eq_zero_iff.1 hn0
    subst hks
    have hbw : bt.with [] = bt := by
      cases bt
      simp only [Tm.with, Tm.kids] at hbf ⊢
      rw [hbf]
    have z0 : ¬ ((0 : Nat) : Int) > 0 := by omega
    simp only [List.length_nil] at hk1
    simp -implicitDefEqProofs only [go_sem, Nat.reduceEqDiff, Nat.reduceAdd, Nat.reduceLeDiff, ↓reduceIte, reduceCtorEq, Int.reduceBEq, Int.reduceBNe, Int.reduceLT, Int.reduceLE, Int.reduceGT, Int.reduceGE, Int.reduceNeg, Int.reduceAdd, Int.reduceSub, Nat.reduceMul, Nat.reduceLT, Int.reduceToNat, q0, q1, q2, q3, s0, s1, s2, s3, s4, s5, g40, g41, w2.one, w2.cells, w4.one, w4.cells, fun H => hk1.alen H, z0]
    refine swp_range 0 (fun i st => st.tm 4 = .ptr H.next 0 ∧ st.tm 8 = .ptr (H.next + 1) 0 ∧ st.tm 11 = .ptr (G4.next + 1) 0 ∧ st.tm 46 = aint ((0 : Nat) : Int) ∧ st.tm 47 = aint ((0 : Nat) : Int) ∧ Ext (put2 bl bb m1 c1 H) st.heap ∧ st.heap.get (H.next + 1) = some (.cells z6) ∧
      st.heap.get (G4.next + 1) = some (.cells [aint bt.form, aint bt.n, abl bt.hid, .v (.string bt.name), ay, byx])) ?_ ?_ ?_
    · refine ⟨rfl, rfl, rfl, rfl, rfl, (((hEG4.new _).set (by rw [put2_next]; omega) _).new _).set (by rw [put2_next]; omega) _, ?_, ?_⟩
      all_goals simp -implicitDefEqProofs only [go_sem, Nat.reduceEqDiff, Nat.reduceAdd, Nat.reduceLeDiff, ↓reduceIte, reduceCtorEq, Int.reduceBEq, Int.reduceBNe, Int.reduceLT, Int.reduceLE, Int.reduceGT, Int.reduceGE, Int.reduceNeg, Int.reduceAdd, Int.reduceSub, Nat.reduceMul, Nat.reduceLT, Int.reduceToNat, q1, s1, s4, s5, g41]
    · intro i st hi; omega
    · rintro ⟨tm, H5⟩ ⟨u4, u8, u11, u46, u47, hE, v1, v2⟩
      simp only at u4 u8 u11 u46 u47 hE v1 v2
      simp -implicitDefEqProofs only [go_sem, Nat.reduceEqDiff, Nat.reduceAdd, Nat.reduceLeDiff, ↓reduceIte, reduceCtorEq, Int.reduceBEq, Int.reduceBNe, Int.reduceLT, Int.reduceLE, Int.reduceGT, Int.reduceGE, Int.reduceNeg, Int.reduceAdd, Int.reduceSub, Nat.reduceMul, Nat.reduceLT, Int.reduceToNat, u4, u8, u11, u46, u47, Int.lt_irrefl, v1, v2, w2.one, w2.cells, w4.one, w4.cells]
      simp only [mapK]
      refine ⟨hE.set (by rw [put2_next]; omega) _, ?_⟩
      rw [hbw]
      exact keepP hbc
  have hz : ((ks.length : Nat) : Int) > 0 := by omega
  simp -implicitDefEqProofs only [go_sem, Nat.reduceEqDiff, Nat.reduceAdd, Nat.reduceLeDiff, ↓reduceIte, reduceCtorEq, Int.reduceBEq, Int.reduceBNe, Int.reduceLT, Int.reduceLE, Int.reduceGT, Int.reduceGE, Int.reduceNeg, Int.reduceAdd, Int.reduceSub, Nat.reduceMul, Nat.reduceLT, Int.reduceToNat, q0, q1, q2, q3, s0, s1, s2, s3, s4, s5, t0, t1, t2, t3, t4, g40, g41, w2.one, w2.cells, w4.one, w4.cells, fun H => hk1.alen H, hz, fun G => make_kids ks.length b3 G]
  have hkxo : Old 0 kx := hT'.2 kx (by simp)
  have hcso : ∀ y ∈ cs, Old 0 y := by
    rcases hk1 with ⟨h, _⟩ | ⟨lo, ex, rfl, _⟩
    · exact absurd h hn0
    · cases hkxo with | ro _ _ _ _ h => exact h
  have hrep : ∀ y ∈ (List.replicate ks.length z6).flatten, Old 0 y := by
    intro y hy
    simp only [List.mem_flatten, List.mem_replicate] at hy
    obtain ⟨q, ⟨_, rfl⟩, hy⟩ := hy
    exact tmp_zero.2 y hy
  have hreplen : (List.replicate ks.length z6).flatten.length = ks.length * 6 := by simp
  refine swp_range ks.length (fun i st => st.tm 1 = aint deep ∧ st.tm 2 = .ptr bl 0 ∧ st.tm 3 = .fn (.func fid) fs cap ∧ st.tm 4 = .ptr H.next 0 ∧ st.tm 8 = .ptr (H.next + 1) 0 ∧ st.tm 11 = .ptr (G4.next + 1) 0 ∧ st.tm 45 = kx ∧ st.tm 46 = aint ks.length ∧ st.tm 47 = aint i ∧ G4.next + 3 ≤ st.heap.next ∧
    st.heap.get H.next = some (.cells [aint f, aint n, abl hid, .v (.string s), lx, kx]) ∧ st.heap.get (H.next + 1) = some (.cells z6) ∧
    st.heap.get (G4.next + 1) = some (.cells [aint bt.form, aint bt.n, abl bt.hid, .v (.string bt.name), ay, .slc (G4.next + 2) 0 6 ks.length ks.length true]) ∧
    ∃ (rs : List Tm) (mi : Int) (ci l : List AV), Ext (put2 bl bb mi ci H) st.heap ∧ st.heap.get (G4.next + 2) = some (.cells l) ∧ l.length = ks.length * 6 ∧ rs.length = i ∧ (∀ (j : Nat) (k : Tm), rs[j]? = some k → TmR k ((l.drop (j * 6)).take 6)) ∧ (∀ y ∈ l, Old 0 y) ∧ Inv ci ∧
      -2305843009213693952 ≤ mi - szK (ks.drop i) * (W + 1) ∧ mi ≤ 2305843009213693952 ∧ mapK D f 0 deep m1 c1 ks = (rs ++ (mapK D f i deep mi ci (ks.drop i)).1, (mapK D f i deep mi ci (ks.drop i)).2)) ?_ ?_ ?_
  · refine ⟨rfl, rfl, rfl, rfl, rfl, rfl, rfl, rfl, rfl, ?_, ?_, ?_, ?_, [], m1, c1, _, (((((hEG4.new _).set (by rw [put2_next]; omega) _).new _).set (by rw [put2_next]; omega) _).new _).set (by rw [put2_next]; omega) _, ?_, hreplen, rfl, (fun j k h => by simp at h), hrep, hc1, ?_, by omega, by simp⟩
    · show G4.next + 3 ≤ G4.next + 1 + 1 + 1
      omega
    · simp -implicitDefEqProofs only [go_sem, Nat.reduceEqDiff, Nat.reduceAdd, Nat.reduceLeDiff, ↓reduceIte, reduceCtorEq, Int.reduceBEq, Int.reduceBNe, Int.reduceLT, Int.reduceLE, Int.reduceGT, Int.reduceGE, Int.reduceNeg, Int.reduceAdd, Int.reduceSub, Nat.reduceMul, Nat.reduceLT, Int.reduceToNat, q0, s0, t0, g40]
    · simp -implicitDefEqProofs only [go_sem, Nat.reduceEqDiff, Nat.reduceAdd, Nat.reduceLeDiff, ↓reduceIte, reduceCtorEq, Int.reduceBEq, Int.reduceBNe, Int.reduceLT, Int.reduceLE, Int.reduceGT, Int.reduceGE, Int.reduceNeg, Int.reduceAdd, Int.reduceSub, Nat.reduceMul, Nat.reduceLT, Int.reduceToNat, q1, s1, t1, g41]
    · simp -implicitDefEqProofs only [go_sem, Nat.reduceEqDiff, Nat.reduceAdd, Nat.reduceLeDiff, ↓reduceIte, reduceCtorEq, Int.reduceBEq, Int.reduceBNe, Int.reduceLT, Int.reduceLE, Int.reduceGT, Int.reduceGE, Int.reduceNeg, Int.reduceAdd, Int.reduceSub, Nat.reduceMul, Nat.reduceLT, Int.reduceToNat, s4, t2]
    · show AHeap.get _ (G4.next + 1 + 1) = _
      simp -implicitDefEqProofs only [go_sem, Nat.reduceEqDiff, Nat.reduceAdd, Nat.reduceLeDiff, ↓reduceIte, reduceCtorEq, Int.reduceBEq, Int.reduceBNe, Int.reduceLT, Int.reduceLE, Int.reduceGT, Int.reduceGE, Int.reduceNeg, Int.reduceAdd, Int.reduceSub, Nat.reduceMul, Nat.reduceLT, Int.reduceToNat, t3]
    · simp only [List.drop_zero]; omega
  · rintro i ⟨tm, H2⟩ hi ⟨u1, u2, u3, u4, u8, u11, u45, u46, u47, hnx, v0, v1, v2, rs, mi, ci, l, hE, v3, hll, hrl, hrs, hold, hci, hmb, hmt, hmk⟩
    simp only at u1 u2 u3 u4 u8 u11 u45 u46 u47 hnx v0 v1 v2 hE v3
    have hltI : (i : Int) < (ks.length : Int) := by omega
    have hix := hk1.aix 6 hi
    obtain ⟨kc, hkc, hle, hld⟩ := hk2.load (List.getElem?_eq_getElem hi)
    have hkm := List.getElem_mem hi
    have hdrop : ks.drop i = ks[i] :: ks.drop (i + 1) := List.drop_eq_getElem_cons hi
    have hkP : TmP ks[i] kc := ⟨hkc, fun y hy => hcso y (by rw [← hld] at hy; exact List.mem_of_mem_drop (List.mem_of_mem_take hy))⟩
    obtain ⟨ax1, bx1, hk6, k1, k2, k3, k4, k5, k6, k7, k8⟩ := hkP.six
    have w9 : IntKind.i64.wrap ((i : Int) + 1) = (i : Int) + 1 := i64_ok _ (by omega)
    have hub := underF_bound f i deep
    have hhk := htK_mem hkm
    have c0 : ¬ H.next = H2.next := by omega
    have c1' : ¬ G4.next + 1 = H2.next := by omega
    have c2 : ¬ H2.next = H.next := by omega
    have c3 : ¬ G4.next + 2 = H2.next := by omega
    have c4 : ¬ H.next + 1 = H2.next := by omega
    rw [hdrop] at hmb hmk
    simp only [szK, mapK] at hmb hmk
    have hmb' : -2305843009213693952 ≤ mi - (szT ks[i] : Int) * (W + 1) - szK (ks.drop (i + 1)) * (W + 1) := by
      push_cast at hmb
      rw [Int.add_mul] at hmb
      omega
    have hposk : (0 : Int) ≤ szK (ks.drop (i + 1)) * (W + 1) := Int.mul_nonneg (by omega) (by omega)
    obtain ⟨mb1, mb2⟩ := map_bound (W := W) hD ks[i] (underF f i deep) mi ci
    have hinv' := map_inv hI ks[i] (a5.mem _ hkm) (underF f i deep) mi ci hci
    subst hk6
    simp -implicitDefEqProofs only [go_sem, Nat.reduceEqDiff, Nat.reduceAdd, Nat.reduceLeDiff, ↓reduceIte, reduceCtorEq, Int.reduceBEq, Int.reduceBNe, Int.reduceLT, Int.reduceLE, Int.reduceGT, Int.reduceGE, Int.reduceNeg, Int.reduceAdd, Int.reduceSub, Nat.reduceMul, Nat.reduceLT, Int.reduceToNat, u1, u2, u3, u4, u8, u11, u45, u46, u47, v0, v2, hltI, hix, hle, hld, k1, k2, k3, k4, c0, c1']
    refine i_callA (fs := []) (cs := []) (fid := 172) ?_ ?_ (under_ok f i deep (by omega) _) ?_
    · rfl
    · simp -implicitDefEqProofs only [go_sem, Nat.reduceEqDiff, Nat.reduceAdd, Nat.reduceLeDiff, ↓reduceIte, reduceCtorEq, Int.reduceBEq, Int.reduceBNe, Int.reduceLT, Int.reduceLE, Int.reduceGT, Int.reduceGE, Int.reduceNeg, Int.reduceAdd, Int.reduceSub, Nat.reduceMul, Nat.reduceLT, Int.reduceToNat]
    rintro x H3 ⟨rfl, rfl⟩
    simp -implicitDefEqProofs only [go_sem, Nat.reduceEqDiff, Nat.reduceAdd, Nat.reduceLeDiff, ↓reduceIte, reduceCtorEq, Int.reduceBEq, Int.reduceBNe, Int.reduceLT, Int.reduceLE, Int.reduceGT, Int.reduceGE, Int.reduceNeg, Int.reduceAdd, Int.reduceSub, Nat.reduceMul, Nat.reduceLT, Int.reduceToNat, u1, u2, u3, u4, u8, u11, u45, u46, u47, v0, v2, c0, c1']
    generalize hG5 : ((H2.new (.cells [aint 0, aint 0, abl false, nostr, nils, nils])).set H2.next (.cells [aint ks[i].form, aint ks[i].n, abl ks[i].hid, .v (.string ks[i].name), ax1, bx1])) = G5
    have hE5 : Ext (put2 bl bb mi ci H) G5 := by rw [← hG5]; exact (hE.new _).set (by rw [put2_next]; omega) _
    have g5n : G5.next = H2.next + 1 := by rw [← hG5]; rfl
    have x0 : G5.get H.next = some (.cells [aint f, aint n, abl hid, .v (.string s), lx, kx]) := by rw [← hG5]; simp -implicitDefEqProofs only [go_sem, Nat.reduceEqDiff, Nat.reduceAdd, Nat.reduceLeDiff, ↓reduceIte, reduceCtorEq, Int.reduceBEq, Int.reduceBNe, Int.reduceLT, Int.reduceLE, Int.reduceGT, Int.reduceGE, Int.reduceNeg, Int.reduceAdd, Int.reduceSub, Nat.reduceMul, Nat.reduceLT, Int.reduceToNat, c0]; exact v0
    have x1 : G5.get (H.next + 1) = some (.cells z6) := by rw [← hG5]; simp -implicitDefEqProofs only [go_sem, Nat.reduceEqDiff, Nat.reduceAdd, Nat.reduceLeDiff, ↓reduceIte, reduceCtorEq, Int.reduceBEq, Int.reduceBNe, Int.reduceLT, Int.reduceLE, Int.reduceGT, Int.reduceGE, Int.reduceNeg, Int.reduceAdd, Int.reduceSub, Nat.reduceMul, Nat.reduceLT, Int.reduceToNat, c4]; exact v1
    have x2 : G5.get (G4.next + 1) = some (.cells [aint bt.form, aint bt.n, abl bt.hid, .v (.string bt.name), ay, .slc (G4.next + 2) 0 6 ks.length ks.length true]) := by rw [← hG5]; simp -implicitDefEqProofs only [go_sem, Nat.reduceEqDiff, Nat.reduceAdd, Nat.reduceLeDiff, ↓reduceIte, reduceCtorEq, Int.reduceBEq, Int.reduceBNe, Int.reduceLT, Int.reduceLE, Int.reduceGT, Int.reduceGE, Int.reduceNeg, Int.reduceAdd, Int.reduceSub, Nat.reduceMul, Nat.reduceLT, Int.reduceToNat, c1']; exact v2
    have x3 : G5.get (G4.next + 2) = some (.cells l) := by rw [← hG5]; simp -implicitDefEqProofs only [go_sem, Nat.reduceEqDiff, Nat.reduceAdd, Nat.reduceLeDiff, ↓reduceIte, reduceCtorEq, Int.reduceBEq, Int.reduceBNe, Int.reduceLT, Int.reduceLE, Int.reduceGT, Int.reduceGE, Int.reduceNeg, Int.reduceAdd, Int.reduceSub, Nat.reduceMul, Nat.reduceLT, Int.reduceToNat, c3]; exact v3
    refine i_callA (fs := []) (cs := []) (fid := 123) ?_ ?_ (ih ks[i] hkm (a5.mem _ hkm) _ hkP (underF f i deep) mi ci (by omega) (by omega) (by omega) hmt hci G5 (hE5.l2 hne hl) (hE5.b2 hb) (by omega) (by omega)) ?_
    · rfl
    · simp -implicitDefEqProofs only [go_sem, Nat.reduceEqDiff, Nat.reduceAdd, Nat.reduceLeDiff, ↓reduceIte, reduceCtorEq, Int.reduceBEq, Int.reduceBNe, Int.reduceLT, Int.reduceLE, Int.reduceGT, Int.reduceGE, Int.reduceNeg, Int.reduceAdd, Int.reduceSub, Nat.reduceMul, Nat.reduceLT, Int.reduceToNat, u2, u3]
    rintro x H6 ⟨⟨xc, rfl, hxc⟩, rfl⟩
    generalize hm2 : (mapT D (underF f i deep) mi ci ks[i]).2.1 = m2 at *
    generalize hc2 : (mapT D (underF f i deep) mi ci ks[i]).2.2 = cc2 at *
    generalize hG6 : put2 bl bb m2 cc2 G5 = G6
    have hE6 : Ext (put2 bl bb m2 cc2 H) G6 := by rw [← hG6]; exact hE5.put2
    have g6n : G6.next = H2.next + 1 := by rw [← hG6]; exact g5n
    have y0 : G6.get H.next = some (.cells [aint f, aint n, abl hid, .v (.string s), lx, kx]) := by rw [← hG6, put2_get, if_neg (by omega), if_neg (by omega)]; exact x0
    have y1 : G6.get (H.next + 1) = some (.cells z6) := by rw [← hG6, put2_get, if_neg (by omega), if_neg (by omega)]; exact x1
    have y2 : G6.get (G4.next + 1) = some (.cells [aint bt.form, aint bt.n, abl bt.hid, .v (.string bt.name), ay, .slc (G4.next + 2) 0 6 ks.length ks.length true]) := by rw [← hG6, put2_get, if_neg (by omega), if_neg (by omega)]; exact x2
    have y3 : G6.get (G4.next + 2) = some (.cells l) := by rw [← hG6, put2_get, if_neg (by omega), if_neg (by omega)]; exact x3
    obtain ⟨_, _, _, _, _, _, _, _, _, hx7, hx8⟩ := hxc.six
    have hixs : aix 6 (i : Int) (.slc (G4.next + 2) 0 6 ks.length ks.length true) = some (.ptr (G4.next + 2) (i * 6)) := by
      simp only [aix]
      rw [if_pos (by omega)]
      simp
    have hle6 : i * 6 + 6 ≤ l.length := by omega
    obtain ⟨st1, st2⟩ := lent_step hll hi hx7 hle6
    have d0 : ¬ H.next = G4.next + 2 := by omega
    have d1 : ¬ H.next + 1 = G4.next + 2 := by omega
    have d2 : ¬ G4.next + 1 = G4.next + 2 := by omega
    simp -implicitDefEqProofs only [go_sem, Nat.reduceEqDiff, Nat.reduceAdd, Nat.reduceLeDiff, ↓reduceIte, reduceCtorEq, Int.reduceBEq, Int.reduceBNe, Int.reduceLT, Int.reduceLE, Int.reduceGT, Int.reduceGE, Int.reduceNeg, Int.reduceAdd, Int.reduceSub, Nat.reduceMul, Nat.reduceLT, Int.reduceToNat, u11, u47, y2, y3, hixs, hle6, hx7, hx8, w9]
    refine ⟨u1, u2, u3, u4, u8, u45, u46, by simp, by omega, ?_, ?_, ?_, rs ++ [(mapT D (underF f i deep) mi ci ks[i]).1], m2, cc2, _, hE6.set (by rw [put2_next]; omega) _, rfl, st1, by simp [hrl], fun j k hj => ?_, fun y hy => ?_, hinv', by omega, by omega, ?_⟩
    · rw [if_neg (by omega)]; exact y0
    · rw [if_neg (by omega)]; exact y1
    · rw [if_neg (by omega)]
    · rcases Nat.lt_or_ge j rs.length with h | h
      · rw [List.getElem?_append_left h] at hj
        rw [st2 j (by omega), if_neg (by omega)]
        exact hrs j k hj
      · rw [List.getElem?_append_right h] at hj
        have : j = i := by
          have := (List.getElem?_eq_some_iff.1 hj).1
          simp at this
          omega
        subst this
        rw [hrl, Nat.sub_self] at hj
        simp at hj
        rw [st2 j hi, if_pos rfl, ← hj]
        exact hxc.1
    · rw [setL_eq _ _ _ (by omega)] at hy
      simp only [List.mem_append] at hy
      rcases hy with (hy | hy) | hy
      · exact hold y (List.mem_of_mem_take hy)
      · exact hxc.2 y hy
      · exact hold y (List.mem_of_mem_drop hy)
    · rw [hmk]; simp
  · rintro ⟨tm, H2⟩ ⟨u1, u2, u3, u4, u8, u11, u45, u46, u47, hnx, v0, v1, v2, rs, mi, ci, l, hE, v3, hll, hrl, hrs, hold, hci, hmb, hmt, hmk⟩
    simp only at u1 u2 u3 u4 u8 u11 u45 u46 u47 hnx v0 v1 v2 hE v3
    rw [List.drop_length, mapK] at hmk
    simp only [List.append_nil] at hmk
    simp -implicitDefEqProofs only [go_sem, Nat.reduceEqDiff, Nat.reduceAdd, Nat.reduceLeDiff, ↓reduceIte, reduceCtorEq, Int.reduceBEq, Int.reduceBNe, Int.reduceLT, Int.reduceLE, Int.reduceGT, Int.reduceGE, Int.reduceNeg, Int.reduceAdd, Int.reduceSub, Nat.reduceMul, Nat.reduceLT, Int.reduceToNat, u4, u8, u11, u46, u47, Int.lt_irrefl, v1, v2, w2.one, w2.cells]
    rw [hmk]
    have d1 : ¬ G4.next + 2 = H.next + 1 := by omega
    refine ⟨hE.set (by rw [put2_next]; omega) _, _, frz_kids (.v _) (.v _) (.v _) (.v _) oay (l := l) (by rw [set_get, if_neg d1]; exact v3) (by omega) hold, _, rfl, ?_, fun y hy => ?_⟩
    · obtain ⟨bf, bn, bh, bs, blv, bks⟩ := bt
      simp only [Tm.with, TmR, Tm.form, Tm.n, Tm.hid, Tm.name, Tm.lv] at *
      exact ⟨ay, _, lls, l, rfl, w2, w3, .inr ⟨ks.length, true, by rw [hrl], by omega⟩, ksR_of rs l (by rw [hrl]; exact hll) hrs⟩
    · simp at hy
      rcases hy with rfl | rfl | rfl | rfl | rfl | rfl
      · exact .v _
      · exact .v _
      · exact .v _
      · exact .v _
      · exact oay
      · exact .ro _ _ _ _ hold
end Go.Proofs.Ytooaiddfokbffaa.E

/- Terms copied and lifted, as the code does it. Conditions: none. -/
set_option linter.unusedVariables false
set_option linter.unusedSimpArgs false
namespace Go.Proofs.Ytooaiddfokbffaa.E
open Go Go.Proofs
attribute [local go_sem] s_seq s_ops s_draw s_block s_skip s_ret s_exit i_nil i_cons i_run i_runG s_condQ c_true c_false aop ev_t ev_c updO_at updO_no upd_at t_normal t_ret t_exit b_normal b_ret b_exit a_some ac_v ac_agg ac_ptr ac_slc ac_ro ac_rop ac_fn new_next set_next argTm_zero argTm_succ argTm_nil ab_bool ab_uv beq_self_eq_true Option.some_beq_some Bool.not_not beq_iff_eq decide_true decide_false Bool.not_true Bool.not_false afld aload astore apack alen_str alen_ro alen_slc alen_nil new_get set_get ite_true ite_false Option.map_some Option.bind_some ibin isShift Nat.add_zero Nat.zero_add List.length_cons List.length_nil List.drop_zero List.drop_succ_cons List.take_succ_cons List.take_zero if_true if_false setL List.set_cons_zero List.set_cons_succ List.all_cons List.all_nil one_int one_bool one_str one_nil one_ptr one_slc one_ro one_rop one_fn Bool.and_self Bool.and_true true_and and_true and_self Bool.false_eq_true post_ret post_normal resAll resOne packR Option.some.injEq exists_eq_left' List.map_cons List.map_nil List.nil_append List.append_nil List.cons_append d_nil d_cons k_nil k_cons g_op g_same g_new avBlock forall_eq' List.getElem?_cons_succ List.getElem?_cons_zero List.getElem?_nil okind gOk bne false_imp_iff forall_const imp_self implies_true true_imp_iff i_callG

def varTm (n : Int) : Tm := .mk 1 n false zeroS [] []
mutual
def cleanT : Tm → Tm
  | .mk f n h s lv ks => (bareT (.mk f n h s lv ks)).with (cleanK ks)
def cleanK : List Tm → List Tm
  | [] => []
  | k :: r => cleanT k :: cleanK r
end
mutual
def liftT (from_ by_ deep : Int) : Tm → Tm
  | .mk f n h s lv ks => if f = 1 ∧ n ≥ from_ + deep then varTm (n + by_) else (bareT (.mk f n h s lv ks)).with (liftK from_ by_ f 0 deep ks)
def liftK (from_ by_ f : Int) (i : Nat) (deep : Int) : List Tm → List Tm
  | [] => []
  | k :: r => liftT from_ by_ (underF f i deep) k :: liftK from_ by_ f (i + 1) deep r
end

def copyD : MD := fun _ _ m c => (none, m, c)
def liftD (from_ by_ : Int) : MD := fun t deep m c => (if t.form = 1 ∧ t.n ≥ from_ + deep then some (varTm (t.n + by_)) else none, m, c)

theorem map_copy : ∀ t, ∀ deep m c, (szT t : Int) ≤ m → mapT copyD deep m c t = (cleanT t, m - szT t, c) := by
  refine Tm.rule fun f n hd s lv ks ih deep m c hm => ?_
  simp only [szT] at hm
  rw [mapT, if_neg (by omega), cleanT]
  simp only [copyD]
  have key : ∀ ks', (∀ k ∈ ks', k ∈ ks) → ∀ (i : Nat) m c, (szK ks' : Int) ≤ m → mapK copyD f i deep m c ks' = (cleanK ks', m - szK ks', c) := by
    intro ks'
    induction ks' with
    | nil => intro _ i m c _; simp [mapK, cleanK, szK]
    | cons k r ih' =>
      intro hmem i m c hm
      simp only [szK] at hm
      simp only [mapK, cleanK, szK]
      rw [ih k (hmem k (List.mem_cons_self ..)) _ m c (by omega)]
      simp only
      rw [ih' (fun k hk => hmem k (List.mem_cons_of_mem _ hk)) (i + 1) _ c (by omega)]
      simp only [Prod.mk.injEq, true_and, and_true]
      omega
  rw [key ks (fun _ h => h) 0 (m - 1) c (by omega)]
  simp only [szT, Prod.mk.injEq, true_and, and_true]
  omega

theorem map_lift (fr by_ : Int) : ∀ t, ∀ deep m c, (szT t : Int) ≤ m → (mapT (liftD fr by_) deep m c t).1 = liftT fr by_ deep t ∧ m - szT t ≤ (mapT (liftD fr by_) deep m c t).2.1 ∧ (mapT (liftD fr by_) deep m c t).2.2 = c := by
  refine Tm.rule fun f n hd s lv ks ih deep m c hm => ?_
  simp only [szT] at hm
  rw [mapT, if_neg (by omega), liftT]
  by_cases hf : f = 1 ∧ n ≥ fr + deep
  · have hD : liftD fr by_ (.mk f n hd s lv ks) deep (m - 1) c = (some (varTm (n + by_)), m - 1, c) := by
      simp only [liftD]; rw [if_pos (by exact hf)]; rfl
    rw [hD, if_pos hf]
    simp only [szT]
    refine ⟨?_, ?_, ?_⟩ <;> first | rfl | trivial | omega
  · have hD : liftD fr by_ (.mk f n hd s lv ks) deep (m - 1) c = (none, m - 1, c) := by
      simp only [liftD]; rw [if_neg (by exact hf)]
    rw [hD, if_neg hf]
    simp only
    have key : ∀ ks', (∀ k ∈ ks', k ∈ ks) → ∀ (i : Nat) m c, (szK ks' : Int) ≤ m → (mapK (liftD fr by_) f i deep m c ks').1 = liftK fr by_ f i deep ks' ∧ m - szK ks' ≤ (mapK (liftD fr by_) f i deep m c ks').2.1 ∧ (mapK (liftD fr by_) f i deep m c ks').2.2 = c := by
      intro ks'
      induction ks' with
      | nil => intro _ i m c _; simp [mapK, liftK, szK]
      | cons k r ih' =>
        intro hmem i m c hm
        simp only [szK] at hm
        simp only [mapK, liftK, szK]
        obtain ⟨q1, q2, q3⟩ := ih k (hmem k (List.mem_cons_self ..)) (underF f i deep) m c (by omega)
        obtain ⟨p1, p2, p3⟩ := ih' (fun k hk => hmem k (List.mem_cons_of_mem _ hk)) (i + 1) (mapT (liftD fr by_) (underF f i deep) m c k).2.1 (mapT (liftD fr by_) (underF f i deep) m c k).2.2 (by omega)
        exact ⟨by rw [q1, p1], by omega, by rw [p3, q3]⟩
    obtain ⟨k1, k2, k3⟩ := key ks (fun _ h => h) 0 (m - 1) c (by omega)
    rw [k1]
    exact ⟨rfl, by simp only [szT]; omega, k3⟩

/-! ### Bounds of what is made -/
theorem tmb_bare {f n : Int} {h : Bool} {s : ByteArray} {lv : List Lv} {ks ks' : List Tm} (hb : TmB (.mk f n h s lv ks)) (hl : ks'.length = ks.length) : TmB ((bareT (.mk f n h s lv ks)).with ks') := by
  simp only [TmB, bareT, Tm.with, Tm.form, Tm.n, Tm.name, Tm.lv, Tm.kids] at *
  obtain ⟨h1, h2, h3, h4, h5, h6⟩ := hb
  refine ⟨h1, ?_, ?_, ?_, by rw [hl]; exact h5, ?_⟩
  · split
    · exact h2
    · exact ⟨by omega, by omega⟩
  · split
    · exact h3
    · exact Nat.zero_le _
  · split
    · exact h4
    · simp
  · split
    · exact h6
    · intro l hl; cases hl
theorem cleanK_len : ∀ ks, (cleanK ks).length = ks.length
  | [] => rfl
  | k :: r => by simp [cleanK, cleanK_len r]
theorem liftK_len (fr by_ f deep : Int) : ∀ (ks : List Tm) (i : Nat), (liftK fr by_ f i deep ks).length = ks.length
  | [], _ => rfl
  | k :: r, i => by simp [liftK, liftK_len fr by_ f deep r]

theorem with_all {p : Tm → Prop} {t : Tm} {ks : List Tm} (h1 : p (t.with ks)) (h2 : Tm.AllL p ks) : Tm.All p (t.with ks) := by
  cases t; exact ⟨h1, h2⟩

theorem tmb_clean : ∀ t, Tm.All TmB t → Tm.All TmB (cleanT t) := by
  refine Tm.rule fun f n hd s lv ks ih ha => ?_
  simp only [Tm.All] at ha
  rw [cleanT]
  refine with_all (tmb_bare ha.1 (cleanK_len ks)) ?_
  have key : ∀ ks', (∀ k ∈ ks', k ∈ ks) → Tm.AllL TmB (cleanK ks') := by
    intro ks'
    induction ks' with
    | nil => intro _; trivial
    | cons k r ih' => intro hm; exact ⟨ih k (hm k (List.mem_cons_self ..)) (ha.2.mem k (hm k (List.mem_cons_self ..))), ih' fun k hk => hm k (List.mem_cons_of_mem _ hk)⟩
  exact key ks fun _ h => h

/-- A variable's index. -/
def Vn (t : Tm) : Prop := t.form = 1 → 0 ≤ t.n ∧ t.n ≤ 1073741824
theorem vok_vn {t : Tm} (h : Tm.All Vok t) : Tm.All Vn t := all_mono (fun t h hf => (h.2 hf).1) t h

theorem tmb_var {n : Int} (h : Rng n) : TmB (varTm n) := by
  simp only [TmB, varTm, Tm.form, Tm.n, Tm.name, Tm.lv, Tm.kids]
  exact ⟨⟨by omega, by omega⟩, h, Nat.zero_le _, by simp, by simp, fun l hl => by cases hl⟩

theorem tmb_lift (fr by_ : Int) (hby : 0 ≤ by_ ∧ by_ ≤ 4611686018427387904) : ∀ t, Tm.All TmB t → Tm.All Vn t → ∀ deep, Tm.All TmB (liftT fr by_ deep t) := by
  refine Tm.rule fun f n hd s lv ks ih ha hv deep => ?_
  simp only [Tm.All] at ha hv
  rw [liftT]
  split
  · rename_i h
    have := hv.1 h.1
    simp only [Tm.n] at this
    exact ⟨tmb_var ⟨by omega, by omega⟩, trivial⟩
  refine with_all (tmb_bare ha.1 (liftK_len ..)) ?_
  have key : ∀ ks', (∀ k ∈ ks', k ∈ ks) → ∀ (i : Nat), Tm.AllL TmB (liftK fr by_ f i deep ks') := by
    intro ks'
    induction ks' with
    | nil => intro _ i; trivial
    | cons k r ih' => intro hm i; exact ⟨ih k (hm k (List.mem_cons_self ..)) (ha.2.mem k (hm k (List.mem_cons_self ..))) (hv.2.mem k (hm k (List.mem_cons_self ..))) _, ih' (fun k hk => hm k (List.mem_cons_of_mem _ hk)) (i + 1)⟩
  exact key ks (fun _ h => h) 0

mutual
theorem cleanT_sz : ∀ t, szT (cleanT t) = szT t
  | .mk f n h s lv ks => by
    rw [cleanT]
    simp only [bareT, Tm.with, szT, cleanK_sz ks]
theorem cleanK_sz : ∀ ks, szK (cleanK ks) = szK ks
  | [] => rfl
  | k :: r => by simp only [cleanK, szK, cleanT_sz k, cleanK_sz r]
end

/-! ### The code -/
set_option maxRecDepth 100000 in
theorem var_ok (n : Int) (H : AHeap) : SCall Try.prog 161 [aint n] H fun x H' => x = .agg [aint 1, aint n, abl false, nostr, nils, nils] ∧ H' = H := by
  refine SCall.valO (.agg _ fun y hy => by simp at hy; rcases hy with rfl | rfl | rfl | rfl | rfl <;> exact .v _) (SCall.intro mixed cf161 ?_)
  simp -implicitDefEqProofs only [c161, go_sem, Nat.reduceEqDiff, Nat.reduceAdd, Nat.reduceLeDiff, ↓reduceIte, reduceCtorEq, Int.reduceBEq, Int.reduceBNe, Int.reduceLT, Int.reduceLE, Int.reduceGT, Int.reduceGE, Int.reduceNeg, Int.reduceAdd, Int.reduceSub, Nat.reduceMul, Nat.reduceLT, Int.reduceToNat, afill]
  exact ((Ext.refl H).new _).set (by omega) _

theorem tmp_var (n : Int) : TmP (varTm n) [aint 1, aint n, abl false, nostr, nils, nils] := tmp_bare sll_nil

set_option maxRecDepth 100000 in
theorem none_ok (H : AHeap) : SCall Try.prog 124 [] H fun x H' => x = .ptr H.next 0 ∧ H' = (H.new (.cells [aint 0])).set H.next (.cells [aint 1099511627776]) := by
  refine SCall.intro mixed cf124 ?_
  simp -implicitDefEqProofs only [c124, go_sem, Nat.reduceEqDiff, Nat.reduceAdd, Nat.reduceLeDiff, ↓reduceIte, reduceCtorEq, Int.reduceBEq, Int.reduceBNe, Int.reduceLT, Int.reduceLE, Int.reduceGT, Int.reduceGE, Int.reduceNeg, Int.reduceAdd, Int.reduceSub, Nat.reduceMul, Nat.reduceLT, Int.reduceToNat]

theorem tmp_zero_tup (b : Bool) : ∀ n, Old n (.tup [.agg z6, abl b]) := fun n => .tup _ fun y hy => by
  simp at hy
  rcases hy with rfl | rfl
  · exact .agg _ fun z hz => (tmp_zero.2 z hz).mono (Nat.zero_le _)
  · exact .v _

set_option maxRecDepth 100000 in
theorem copyD_ok (t : Tm) (cells : List AV) (deep : Int) (hT : TmP t cells) (G : AHeap) : SCall Try.prog 125 [.agg cells, aint deep] G fun x H' => x = .tup [.agg z6, abl false] ∧ H' = G := by
  refine SCall.valO (tmp_zero_tup false _) (SCall.intro mixed cf125 ?_)
  obtain ⟨lx, kx, rfl, p1, p2, p3, p4, p5⟩ := hT.six
  have e1 : ¬ G.next = G.next + 1 := by omega
  have e2 : ¬ G.next + 1 = G.next := by omega
  simp -implicitDefEqProofs only [c125, go_sem, Nat.reduceEqDiff, Nat.reduceAdd, Nat.reduceLeDiff, ↓reduceIte, reduceCtorEq, Int.reduceBEq, Int.reduceBNe, Int.reduceLT, Int.reduceLE, Int.reduceGT, Int.reduceGE, Int.reduceNeg, Int.reduceAdd, Int.reduceSub, Nat.reduceMul, Nat.reduceLT, Int.reduceToNat, p1, p2, p3, p4, afill, e1, e2]
  exact (((Ext.refl G).new _).new _).set (by omega) _

set_option maxRecDepth 100000 in
theorem liftD_ok (fr by_ : Int) (hfr : 0 ≤ fr ∧ fr ≤ 1073741824) (hby : 0 ≤ by_ ∧ by_ ≤ 4611686018427387904) (t : Tm) (hv : Vn t) (cells : List AV) (deep m : Int) (c : List AV) (hd : 0 ≤ deep ∧ deep ≤ 4611686018427387904) (hT : TmP t cells) (G : AHeap) :
    SCall Try.prog 126 [.agg [aint fr, aint by_], .agg cells, aint deep] G fun x H' => (∃ xc, x = .tup [.agg xc, abl (liftD fr by_ t deep m c).1.isSome] ∧ TmP ((liftD fr by_ t deep m c).1.getD zeroTm) xc) ∧ H' = G := by
  have main : SCall Try.prog 126 [.agg [aint fr, aint by_], .agg cells, aint deep] G fun x H' => (∃ xc, x = .tup [.agg xc, abl (liftD fr by_ t deep m c).1.isSome] ∧ TmP ((liftD fr by_ t deep m c).1.getD zeroTm) xc) ∧ Ext G H' := by
    refine SCall.intro mixed cf126 ?_
    obtain ⟨lx, kx, rfl, p1, p2, p3, p4, p5⟩ := hT.six
    have e1 : ¬ G.next = G.next + 1 := by omega
    have e2 : ¬ G.next + 1 = G.next := by omega
    have e3 : ¬ G.next = G.next + 1 + 1 := by omega
    have e4 : ¬ G.next + 1 = G.next + 1 + 1 := by omega
    have e5 : ¬ G.next + 1 + 1 = G.next := by omega
    have e6 : ¬ G.next + 1 + 1 = G.next + 1 := by omega
    have hE : ∀ o1 o2 o3 o4, Ext G ((((G.new o1).new o2).new o3).set (G.next + 1 + 1) o4) := fun o1 o2 o3 o4 => ((((Ext.refl G).new _).new _).new _).set (by omega) _
    have w1 : IntKind.i64.wrap (fr + deep) = fr + deep := i64_ok _ (by omega)
    by_cases hf : t.form = 1
    · have hn := hv hf
      have hfb : (t.form == 1) = true := by rw [hf]; rfl
      by_cases hge : t.n ≥ fr + deep
      · have hD : liftD fr by_ t deep m c = (some (varTm (t.n + by_)), m, c) := by simp only [liftD]; rw [if_pos ⟨hf, hge⟩]
        have w2 : IntKind.i64.wrap (t.n + by_) = t.n + by_ := i64_ok _ (by omega)
        rw [hD]
        simp -implicitDefEqProofs only [c126, go_sem, Nat.reduceEqDiff, Nat.reduceAdd, Nat.reduceLeDiff, ↓reduceIte, reduceCtorEq, Int.reduceBEq, Int.reduceBNe, Int.reduceLT, Int.reduceLE, Int.reduceGT, Int.reduceGE, Int.reduceNeg, Int.reduceAdd, Int.reduceSub, Nat.reduceMul, Nat.reduceLT, Int.reduceToNat, p1, p2, p3, p4, afill, e1, e2, e3, e4, e5, e6, hfb, w1, hge, w2]
        refine i_callA (fs := []) (cs := []) ?_ ?_ (var_ok (t.n + by_) _) ?_
        · rfl
        · simp -implicitDefEqProofs only [go_sem, Nat.reduceEqDiff, Nat.reduceAdd, Nat.reduceLeDiff, ↓reduceIte, reduceCtorEq, Int.reduceBEq, Int.reduceBNe, Int.reduceLT, Int.reduceLE, Int.reduceGT, Int.reduceGE, Int.reduceNeg, Int.reduceAdd, Int.reduceSub, Nat.reduceMul, Nat.reduceLT, Int.reduceToNat]
        rintro x H3 ⟨rfl, rfl⟩
        simp -implicitDefEqProofs only [go_sem, Nat.reduceEqDiff, Nat.reduceAdd, Nat.reduceLeDiff, ↓reduceIte, reduceCtorEq, Int.reduceBEq, Int.reduceBNe, Int.reduceLT, Int.reduceLE, Int.reduceGT, Int.reduceGE, Int.reduceNeg, Int.reduceAdd, Int.reduceSub, Nat.reduceMul, Nat.reduceLT, Int.reduceToNat, e1, e2, e3, e4, e5, e6]
        exact ⟨⟨_, rfl, tmp_var _⟩, hE _ _ _ _⟩
      · have hD : liftD fr by_ t deep m c = (none, m, c) := by simp only [liftD]; rw [if_neg (fun h => hge h.2)]
        rw [hD]
        simp -implicitDefEqProofs only [c126, go_sem, Nat.reduceEqDiff, Nat.reduceAdd, Nat.reduceLeDiff, ↓reduceIte, reduceCtorEq, Int.reduceBEq, Int.reduceBNe, Int.reduceLT, Int.reduceLE, Int.reduceGT, Int.reduceGE, Int.reduceNeg, Int.reduceAdd, Int.reduceSub, Nat.reduceMul, Nat.reduceLT, Int.reduceToNat, p1, p2, p3, p4, afill, e1, e2, e3, e4, e5, e6, hfb, w1, hge]
        exact ⟨⟨_, rfl, tmp_zero⟩, hE _ _ _ _⟩
    · have hD : liftD fr by_ t deep m c = (none, m, c) := by simp only [liftD]; rw [if_neg (fun h => hf h.1)]
      rw [hD]
      simp -implicitDefEqProofs only [c126, go_sem, Nat.reduceEqDiff, Nat.reduceAdd, Nat.reduceLeDiff, ↓reduceIte, reduceCtorEq, Int.reduceBEq, Int.reduceBNe, Int.reduceLT, Int.reduceLE, Int.reduceGT, Int.reduceGE, Int.reduceNeg, Int.reduceAdd, Int.reduceSub, Nat.reduceMul, Nat.reduceLT, Int.reduceToNat, p1, p2, p3, p4, afill, e1, e2, e3, e4, e5, e6, bne' hf]
      exact ⟨⟨_, rfl, tmp_zero⟩, hE _ _ _ _⟩
  refine main.frz fun _ _ x H' ⟨⟨xc, hx, hxc⟩, hE⟩ _ => ⟨hE, x, .keep _ ?_, xc, hx, hxc⟩
  subst hx
  exact .tup _ fun y hy => by
    simp at hy
    rcases hy with rfl | rfl
    · exact .agg _ fun z hz => (hxc.2 z hz).mono (Nat.zero_le _)
    · exact .v _

theorem tmp_keep {t : Tm} {xc : List AV} {N : Nat} {H' : AHeap} (h : TmP t xc) : FrzN N H' (.agg xc) (.agg xc) := .keep _ (.agg _ fun y hy => (h.2 y hy).mono (Nat.zero_le _))

set_option maxRecDepth 100000 in
theorem copy_ok (t : Tm) (ha : Tm.All TmB t) (hh : htT t ≤ 1000000) (hz : szT t ≤ 1000000) (cells : List AV) (hT : TmP t cells) (H : AHeap) : SCall Try.prog 76 [.agg cells] H fun x H' => (∃ c, x = .agg c ∧ TmP (cleanT t) c) ∧ H' = H := by
  have hT' := hT
  obtain ⟨lx, kx, hc6, p1, p2, p3, p4, p5, p6, p7, p8⟩ := hT.six
  subst hc6
  have main : SCall Try.prog 76 [.agg [aint t.form, aint t.n, abl t.hid, .v (.string t.name), lx, kx]] H fun x H' => (∃ c, x = .agg c ∧ TmP (cleanT t) c) ∧ Ext H H' := by
    refine SCall.intro mixed cf76 ?_
    have e1 : ¬ H.next = H.next + 1 := by omega
    have e2 : ¬ H.next + 1 = H.next := by omega
    have e3 : ¬ H.next = H.next + 1 + 1 := by omega
    have e4 : ¬ H.next + 1 = H.next + 1 + 1 := by omega
    simp -implicitDefEqProofs only [c76, go_sem, Nat.reduceEqDiff, Nat.reduceAdd, Nat.reduceLeDiff, ↓reduceIte, reduceCtorEq, Int.reduceBEq, Int.reduceBNe, Int.reduceLT, Int.reduceLE, Int.reduceGT, Int.reduceGE, Int.reduceNeg, Int.reduceAdd, Int.reduceSub, Nat.reduceMul, Nat.reduceLT, Int.reduceToNat, p1, p2, p3, p4, e1, e2]
    refine i_callA (fs := []) (cs := []) ?_ ?_ (none_ok _) ?_
    · rfl
    · simp -implicitDefEqProofs only [go_sem, Nat.reduceEqDiff, Nat.reduceAdd, Nat.reduceLeDiff, ↓reduceIte, reduceCtorEq, Int.reduceBEq, Int.reduceBNe, Int.reduceLT, Int.reduceLE, Int.reduceGT, Int.reduceGE, Int.reduceNeg, Int.reduceAdd, Int.reduceSub, Nat.reduceMul, Nat.reduceLT, Int.reduceToNat]
    rintro x H3 ⟨rfl, rfl⟩
    simp -implicitDefEqProofs only [go_sem, Nat.reduceEqDiff, Nat.reduceAdd, Nat.reduceLeDiff, ↓reduceIte, reduceCtorEq, Int.reduceBEq, Int.reduceBNe, Int.reduceLT, Int.reduceLE, Int.reduceGT, Int.reduceGE, Int.reduceNeg, Int.reduceAdd, Int.reduceSub, Nat.reduceMul, Nat.reduceLT, Int.reduceToNat, e1, e2, e3, e4]
    have hc := map_copy t 0 1099511627776 [aint t.form, aint t.n, abl t.hid, .v (.string t.name), lx, kx] (by omega)
    have hm := map_ok (fid := 125) (fs := []) (cap := []) (bl := H.next + 1 + 1) (bb := H.next) (by omega) (D := copyD) (Pt := TmB) (Inv := fun c => ∀ x ∈ c, Old 0 x) (W := 0) (fun t h => h) (fun t deep m c => by simp [copyD]) (fun t deep m c _ h => h) (fun c h => h)
      (fun t cells deep m c G _ hT _ _ _ _ _ _ h1 h2 _ _ => (copyD_ok t cells deep hT G).mono fun x H' ⟨hx, hH⟩ => ⟨⟨z6, hx, tmp_zero⟩, by rw [hH]; exact (put2_self h1 h2).symm⟩)
      t ha _ hT' 0 1099511627776 _ (by omega) (by omega) (by omega) (by omega) hT'.2 ((((H.new (.cells [aint t.form, aint t.n, abl t.hid, .v (.string t.name), lx, kx])).new (.cells [aint 0, aint 0, abl false, nostr, nils, nils])).new (.cells [aint 0])).set (H.next + 1 + 1) (.cells [aint 1099511627776]))
      (by simp -implicitDefEqProofs only [go_sem, Nat.reduceEqDiff, Nat.reduceAdd, Nat.reduceLeDiff, ↓reduceIte, reduceCtorEq, Int.reduceBEq, Int.reduceBNe, Int.reduceLT, Int.reduceLE, Int.reduceGT, Int.reduceGE, Int.reduceNeg, Int.reduceAdd, Int.reduceSub, Nat.reduceMul, Nat.reduceLT, Int.reduceToNat]) (by simp -implicitDefEqProofs only [go_sem, Nat.reduceEqDiff, Nat.reduceAdd, Nat.reduceLeDiff, ↓reduceIte, reduceCtorEq, Int.reduceBEq, Int.reduceBNe, Int.reduceLT, Int.reduceLE, Int.reduceGT, Int.reduceGE, Int.reduceNeg, Int.reduceAdd, Int.reduceSub, Nat.reduceMul, Nat.reduceLT, Int.reduceToNat, e1, e3]) (by simp only [set_next, new_next]; omega) (by simp only [set_next, new_next]; omega)
    rw [hc] at hm
    refine i_callA (fs := []) (cs := []) (fid := 123) ?_ ?_ hm ?_
    · rfl
    · simp -implicitDefEqProofs only [go_sem, Nat.reduceEqDiff, Nat.reduceAdd, Nat.reduceLeDiff, ↓reduceIte, reduceCtorEq, Int.reduceBEq, Int.reduceBNe, Int.reduceLT, Int.reduceLE, Int.reduceGT, Int.reduceGE, Int.reduceNeg, Int.reduceAdd, Int.reduceSub, Nat.reduceMul, Nat.reduceLT, Int.reduceToNat]
    rintro x H3 ⟨⟨xc, rfl, hxc⟩, rfl⟩
    obtain ⟨ax, bx, hx6, k1, k2, k3, k4, _⟩ := hxc.six
    subst hx6
    simp -implicitDefEqProofs only [go_sem, Nat.reduceEqDiff, Nat.reduceAdd, Nat.reduceLeDiff, ↓reduceIte, reduceCtorEq, Int.reduceBEq, Int.reduceBNe, Int.reduceLT, Int.reduceLE, Int.reduceGT, Int.reduceGE, Int.reduceNeg, Int.reduceAdd, Int.reduceSub, Nat.reduceMul, Nat.reduceLT, Int.reduceToNat, put2, e1, e2, e3, e4, k1, k2, k3, k4]
    exact ⟨⟨_, rfl, hxc⟩, (((((((Ext.refl H).new _).new _).new _).set (by omega) _).set (by omega) _).set (by omega) _).set (by omega) _⟩
  exact main.frz fun _ _ x H' ⟨⟨xc, hx, hxc⟩, hE⟩ _ => ⟨hE, x, by rw [hx]; exact tmp_keep hxc, xc, hx, hxc⟩
end Go.Proofs.Ytooaiddfokbffaa.E
