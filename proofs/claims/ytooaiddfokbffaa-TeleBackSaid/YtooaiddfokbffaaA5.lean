/- Texts of the proof, one behind the other. Conditions: none. -/
import Derived.Test.YtooaiddfokbffaaA4
import Derived.SizedLaws
import Derived.Carry
import Derived.WalkKit
import Derived.ProofKit
import Derived.OpenShut
import Derived.ShutString
import Derived.ChangeOld
import Derived.Below
/- Whether a constant's name stands in a term. Conditions: none. -/
set_option linter.unusedVariables false
set_option linter.unusedSimpArgs false
namespace Go.Proofs.Ytooaiddfokbffaa.E
open Go Go.Proofs
attribute [local go_sem] s_seq s_ops s_draw s_block s_skip s_ret s_exit i_nil i_cons i_run i_runG s_condQ c_true c_false aop ev_t ev_c updO_at updO_no upd_at t_normal t_ret t_exit b_normal b_ret b_exit a_some ac_v ac_agg ac_ptr ac_slc ac_ro ac_rop ac_fn new_next set_next argTm_zero argTm_succ argTm_nil ab_bool ab_uv beq_self_eq_true Option.some_beq_some Bool.not_not beq_iff_eq decide_true decide_false Bool.not_true Bool.not_false afld aload astore apack alen_str alen_ro alen_slc alen_nil new_get set_get ite_true ite_false Option.map_some Option.bind_some ibin isShift Nat.add_zero Nat.zero_add List.length_cons List.length_nil List.drop_zero List.drop_succ_cons List.take_succ_cons List.take_zero if_true if_false setL List.set_cons_zero List.set_cons_succ List.all_cons List.all_nil one_int one_bool one_str one_nil one_ptr one_slc one_ro one_rop one_fn Bool.and_self Bool.and_true true_and and_true and_self Bool.false_eq_true post_ret post_normal resAll resOne packR Option.some.injEq exists_eq_left' List.map_cons List.map_nil List.nil_append List.append_nil List.cons_append d_nil d_cons k_nil k_cons g_op g_same g_new avBlock forall_eq' List.getElem?_cons_succ List.getElem?_cons_zero List.getElem?_nil okind gOk bne false_imp_iff forall_const imp_self implies_true true_imp_iff i_callG

def sameS (a b : ByteArray) : Bool := a.data.toList == b.data.toList

mutual
def hasT (nm : ByteArray) : Tm → Bool
  | .mk f _ _ s _ ks => if f = 10 ∧ sameS s nm = true then true else hasK nm ks
def hasK (nm : ByteArray) : List Tm → Bool
  | [] => false
  | k :: r => if hasT nm k = true then true else hasK nm r
end

def isHas (nm : ByteArray) (t : Tm) (deep : Int) (c : List AV) : Bool × List AV := (decide (t.form = 10 ∧ sameS t.name nm = true), c)

def Kok (t : Tm) : Prop := t.kids.length ≤ 4611686018427387904

def hasF (r : Lv → Bool) (nm : ByteArray) (t : Tm) : Bool := if checkF r t = 0 then hasT nm t else false

end Go.Proofs.Ytooaiddfokbffaa.E

/- The law TermChecks, walked. Conditions: none. -/
set_option linter.unusedVariables false
set_option linter.unusedSimpArgs false
namespace Go.Proofs.Ytooaiddfokbffaa.E
open Go Go.Proofs
attribute [local go_sem] s_seq s_ops s_draw s_block s_skip s_ret s_exit i_nil i_cons i_run i_runG s_condQ c_true c_false aop ev_t ev_c updO_at updO_no upd_at t_normal t_ret t_exit b_normal b_ret b_exit a_some ac_v ac_agg ac_ptr ac_slc ac_ro ac_rop ac_fn new_next set_next argTm_zero argTm_succ argTm_nil ab_bool ab_uv beq_self_eq_true Option.some_beq_some Bool.not_not beq_iff_eq decide_true decide_false Bool.not_true Bool.not_false afld aload astore apack alen_str alen_ro alen_slc alen_nil new_get set_get ite_true ite_false Option.map_some Option.bind_some ibin isShift Nat.add_zero Nat.zero_add List.length_cons List.length_nil List.drop_zero List.drop_succ_cons List.take_succ_cons List.take_zero if_true if_false setL List.set_cons_zero List.set_cons_succ List.all_cons List.all_nil one_int one_bool one_str one_nil one_ptr one_slc one_ro one_rop one_fn Bool.and_self Bool.and_true true_and and_true and_self Bool.false_eq_true post_ret post_normal resAll resOne packR Option.some.injEq exists_eq_left' List.map_cons List.map_nil List.nil_append List.append_nil List.cons_append d_nil d_cons k_nil k_cons g_op g_same g_new avBlock forall_eq' List.getElem?_cons_succ List.getElem?_cons_zero List.getElem?_nil okind gOk bne false_imp_iff forall_const imp_self implies_true true_imp_iff i_callG

theorem all_mono {p q : Tm → Prop} (h : ∀ t, p t → q t) : ∀ t, Tm.All p t → Tm.All q t := by
  refine Tm.rule fun f n hd s lv ks ih ha => ?_
  simp only [Tm.All] at *
  refine ⟨h _ ha.1, ?_⟩
  have key : ∀ ks', (∀ k ∈ ks', k ∈ ks) → Tm.AllL q ks' := by
    intro ks'
    induction ks' with
    | nil => intro _; trivial
    | cons k r ih' => intro hm; exact ⟨ih k (hm k (List.mem_cons_self ..)) (ha.2.mem k (hm k (List.mem_cons_self ..))), ih' fun k hk => hm k (List.mem_cons_of_mem _ hk)⟩
  exact key ks fun _ h => h

theorem tmb_fine {t : Tm} (h : Tm.All TmB t) : Tm.All (Fine canF) t := all_mono (fun t ⟨_, _, h1, h2, h3, h4⟩ => ⟨by omega, by omega, fun l hl => can_ok l (by have := (h4 l hl).2.1; omega)⟩) t h
end Go.Proofs.Ytooaiddfokbffaa.E

/- What is handed to a law, as abstract values. Conditions: none. -/
set_option linter.unusedVariables false
set_option linter.unusedSimpArgs false
namespace Go.Proofs.Ytooaiddfokbffaa.E
open Go Go.Proofs Go.ChangeShapes Go.WideShapes Go.ChangeAt Go.RowKit

section
variable {H : Type} {enc : TypeId × Value → H} {w : World} {base : Nat} {sp : Nat → Bool} {held : Bool}

theorem old0 {x : AV} {u : Value} (h : VRel Emb.empty w x u) : Old 0 x := h.old fun b c hm => by cases hm

theorem agg_of {v : Value} (h : v.cells.toList.length = 6) : ∃ cs : Array Value, v = .agg cs := by
  cases v <;> simp [Value.cells] at h
  exact ⟨_, rfl⟩

theorem term_arg {v : Value} {d : DataW H} {ps : List MemPlace} (h : DataW.Trod enc Try.prog w base sp held 25 v d ps) (hw : Wt Try.prog 25 d) :
    ∃ (t : Tm) (ys : List AV), Tm.All TmB t ∧ TmR t ys ∧ (∀ y ∈ ys, Old 0 y) ∧ VRel Emb.empty w (.agg ys) v := by
  obtain ⟨fuel, hf⟩ := h
  obtain ⟨t, ys, h1, h2, h3⟩ := trod_tm fuel _ d ps hf hw
  have hl : v.cells.toList.length = 6 := by rw [h3.1, h2.len]
  obtain ⟨cs, rfl⟩ := agg_of hl
  have hv : VRel Emb.empty w (.agg ys) (.agg cs) := .agg ys cs (by have := h3.1; simpa [Value.cells] using this) fun i x u hx hu => h3.2 i x u hx (by simpa [Value.cells] using hu)
  exact ⟨t, ys, h1, h2, (old0 hv).aggs, hv⟩

theorem wt_arg {ts : List TypeId} {ds : List (DataW H)} (hsz : (DataW.weightsEach Try.prog ts ds).all (· ≤ reachBytes) = true) {j : Nat} {t : TypeId} {d : DataW H} (ht : ts[j]? = some t) (hd : ds[j]? = some d) : Wt Try.prog t d := by
  intro n hn
  have := List.all_eq_true.1 hsz n (DataW.weights_mem_each ht hd n hn)
  simpa using this

theorem lrel_nil : LRel Emb.empty w [] [] := ⟨rfl, fun i x u h => by simp at h⟩

/-- From the abstract call to the law's own words. -/
theorem law_walk {f : FuncId} {args : List AV} {us : List Value} (h : SCall Try.prog f args AHeap.empty fun x H' => x = abl true ∧ H' = AHeap.empty) (hL : LRel Emb.empty w args us) :
    Calls Try.prog f us.toArray w fun e w' => e = .returned (.bool true) ∧ Below w.heap.size w w' := by
  refine (h.2 Emb.empty w us (HRel.none w) hL).mono fun en w' hp => ?_
  obtain ⟨u, x, H', e', rfl, h1, h2, h3, h4⟩ := hp
  obtain ⟨rfl, _⟩ := h1
  cases h3
  exact ⟨rfl, h4.os, h4.tape, h4.output, h4.size, fun k hk => h4.frame k hk (nohit k)⟩
end
theorem laidOut : laidOutB Try.prog = true := by kernel_rfl
theorem own : ownKnob Try.prog.godebug = none := by kernel_rfl
end Go.Proofs.Ytooaiddfokbffaa.E

/- Levels and a term's own fields, copied by the code. Conditions: none. -/
set_option linter.unusedVariables false
set_option linter.unusedSimpArgs false
namespace Go.Proofs.Ytooaiddfokbffaa.E
open Go Go.Proofs
attribute [local go_sem] s_seq s_ops s_draw s_block s_skip s_ret s_exit i_nil i_cons i_run i_runG s_condQ c_true c_false aop ev_t ev_c updO_at updO_no upd_at t_normal t_ret t_exit b_normal b_ret b_exit a_some ac_v ac_agg ac_ptr ac_slc ac_ro ac_rop ac_fn new_next set_next argTm_zero argTm_succ argTm_nil ab_bool ab_uv beq_self_eq_true Option.some_beq_some Bool.not_not beq_iff_eq decide_true decide_false Bool.not_true Bool.not_false afld aload astore apack alen_str alen_ro alen_slc alen_nil new_get set_get ite_true ite_false Option.map_some Option.bind_some ibin isShift Nat.add_zero Nat.zero_add List.length_cons List.length_nil List.drop_zero List.drop_succ_cons List.take_succ_cons List.take_zero if_true if_false setL List.set_cons_zero List.set_cons_succ List.all_cons List.all_nil one_int one_bool one_str one_nil one_ptr one_slc one_ro one_rop one_fn Bool.and_self Bool.and_true true_and and_true and_self Bool.false_eq_true post_ret post_normal resAll resOne packR Option.some.injEq exists_eq_left' List.map_cons List.map_nil List.nil_append List.append_nil List.cons_append d_nil d_cons k_nil k_cons g_op g_same g_new avBlock forall_eq' List.getElem?_cons_succ List.getElem?_cons_zero List.getElem?_nil okind gOk bne false_imp_iff forall_const imp_self implies_true true_imp_iff i_callG

theorem SlR.anil {n : Nat} {x : AV} {cs : List AV} (h : SlR n x cs) : anil .slice x = some (match x with | .v _ => true | _ => false) := by
  rcases h with ⟨rfl, rfl⟩ | ⟨lo, ex, rfl, _⟩ <;> rfl

theorem SlR.src2 {r : List (Int × Int)} {x : AV} {c : List AV} (q1 : SlR r.length x c) (q2 : VarsR r c) (G : AHeap) : asrc G 2 x = some (r.length, varsC r) := by
  rcases q1 with ⟨q, rfl⟩ | ⟨lo, ex, rfl, q⟩
  · rw [List.length_eq_zero_iff.1 q]; rfl
  · simp only [asrc]
    rw [if_pos q2.len, q2.pre]

set_option maxRecDepth 100000 in
theorem clone_ok (vars : List (Int × Int)) (x : AV) (cs : List AV) (h1 : SlR vars.length x cs) (h2 : VarsR vars cs) (hn : vars.length * 16 ≤ 140737488351232) (H : AHeap) :
    SCall Try.prog 211 [x] H fun y H' => SlV vars y ∧ H' = H := by
  have h1' := h1
  have main : SCall Try.prog 211 [x] H fun y H' => Ext H H' ∧ ((SlV vars y) ∨ ∃ b lo ex, y = .slc b 0 2 vars.length lo ex ∧ vars.length ≤ lo ∧ H.next ≤ b ∧ H'.get b = some (.cells (varsC vars))) := by
    refine SCall.intro mixed cf211 ?_
    rcases h1 with ⟨h0, rfl⟩ | ⟨lo, ex, rfl, hlo⟩
    · simp -implicitDefEqProofs only [c211, go_sem, Nat.reduceEqDiff, Nat.reduceAdd, Nat.reduceLeDiff, ↓reduceIte, reduceCtorEq, Int.reduceBEq, Int.reduceBNe, Int.reduceLT, Int.reduceLE, Int.reduceGT, Int.reduceGE, Int.reduceNeg, Int.reduceAdd, Int.reduceSub, Nat.reduceMul, Nat.reduceLT, Int.reduceToNat, anil]
      refine ⟨Ext.refl H, .inl ?_⟩
      rw [List.length_eq_zero_iff.1 h0]
      exact slv_nil
    · simp -implicitDefEqProofs only [c211, go_sem, Nat.reduceEqDiff, Nat.reduceAdd, Nat.reduceLeDiff, ↓reduceIte, reduceCtorEq, Int.reduceBEq, Int.reduceBNe, Int.reduceLT, Int.reduceLE, Int.reduceGT, Int.reduceGE, Int.reduceNeg, Int.reduceAdd, Int.reduceSub, Nat.reduceMul, Nat.reduceLT, Int.reduceToNat, anil, afill, List.replicate, List.flatten_nil]
      have hs := h1'.src2 h2 (H.new (.cells []))
      have hl2 := h2.len
      by_cases h0 : vars.length = 0
      · have hv : vars = [] := List.length_eq_zero_iff.1 h0
        subst hv
        have : aappend (H.new (.cells [])) 2 16 (.slc H.next 0 2 0 0 true) (.ro 0 lo ex cs) = some (.slc H.next 0 2 0 0 true, H.new (.cells [])) := by
          unfold aappend
          simp only [List.length_nil] at hs
          rw [hs]
          simp [varsC, new_get]
        simp -implicitDefEqProofs only [go_sem, Nat.reduceEqDiff, Nat.reduceAdd, Nat.reduceLeDiff, ↓reduceIte, reduceCtorEq, Int.reduceBEq, Int.reduceBNe, Int.reduceLT, Int.reduceLE, Int.reduceGT, Int.reduceGE, Int.reduceNeg, Int.reduceAdd, Int.reduceSub, Nat.reduceMul, Nat.reduceLT, Int.reduceToNat, this, List.length_nil]
        exact ⟨(Ext.refl H).new _, .inr ⟨H.next, 0, true, rfl, Nat.le_refl _, Nat.le_refl _, by simp [varsC]⟩⟩
      · have : aappend (H.new (.cells [])) 2 16 (.slc H.next 0 2 0 0 true) (.ro vars.length lo ex cs) = some (.slc (H.next + 1) 0 2 vars.length vars.length false, (H.new (.cells [])).new (.cells (varsC vars))) := by
          unfold aappend
          rw [hs]
          simp only
          rw [if_neg (by rw [varsC_one]; simp), new_get, if_pos rfl]
          simp only
          rw [if_pos ⟨trivial, by simp⟩, if_neg h0, if_neg (by omega), if_pos (by omega), if_pos trivial]
          simp [new_next]
        simp -implicitDefEqProofs only [go_sem, Nat.reduceEqDiff, Nat.reduceAdd, Nat.reduceLeDiff, ↓reduceIte, reduceCtorEq, Int.reduceBEq, Int.reduceBNe, Int.reduceLT, Int.reduceLE, Int.reduceGT, Int.reduceGE, Int.reduceNeg, Int.reduceAdd, Int.reduceSub, Nat.reduceMul, Nat.reduceLT, Int.reduceToNat, this]
        exact ⟨((Ext.refl H).new _).new _, .inr ⟨H.next + 1, _, _, rfl, Nat.le_refl _, by omega, by rw [if_pos rfl]⟩⟩
  refine main.frz fun _ _ y H' ⟨hE, h⟩ _ => ⟨hE, ?_⟩
  rcases h with h | ⟨b, lo, ex, rfl, hlo, hb, hg⟩
  · exact ⟨y, .keep _ (h.2.mono (Nat.zero_le _)), h⟩
  · refine ⟨.ro vars.length lo ex (varsC vars), .slc b 0 2 _ _ _ _ _ hg hb (by omega) (fun i x y hx hy => ?_), SlV.of (.inr ⟨lo, ex, rfl, hlo⟩)⟩
    rw [Nat.zero_add] at hx
    rw [hx] at hy
    injection hy with hy
    subst hy
    exact .keep _ (varsC_old _ _ _ (List.mem_of_getElem? hx))

/-- Levels in cells, one behind the other, none of them leading to a block. -/
def LvsX : List Lv → List AV → Prop
  | [], cs => cs = []
  | l :: r, cs => ∃ y cs', cs = aint l.n :: y :: cs' ∧ SlV l.vars y ∧ LvsX r cs'
theorem LvsX.len : ∀ {ls : List Lv} {cs : List AV}, LvsX ls cs → cs.length = ls.length * 2
  | [], cs, h => by simp only [LvsX] at h; subst h; rfl
  | l :: r, cs, h => by
    simp only [LvsX] at h
    obtain ⟨y, cs', rfl, _, h2⟩ := h
    have := LvsX.len h2
    simp; omega
theorem LvsX.old : ∀ {ls : List Lv} {cs : List AV}, LvsX ls cs → ∀ y ∈ cs, Old 0 y
  | [], cs, h, y, hy => by simp only [LvsX] at h; subst h; cases hy
  | l :: r, cs, h, y, hy => by
    simp only [LvsX] at h
    obtain ⟨z, cs', rfl, h1, h2⟩ := h
    rcases List.mem_cons.1 hy with rfl | hy
    · exact .v _
    rcases List.mem_cons.1 hy with rfl | hy
    · exact h1.2
    · exact LvsX.old h2 y hy
theorem LvsX.snoc : ∀ {ls : List Lv} {cs : List AV} {l : Lv} {y : AV}, LvsX ls cs → SlV l.vars y → LvsX (ls ++ [l]) (cs ++ [aint l.n, y])
  | [], cs, l, y, h, hy => by simp only [LvsX] at h; subst h; exact ⟨y, [], rfl, hy, rfl⟩
  | l0 :: r, cs, l, y, h, hy => by
    simp only [LvsX] at h
    obtain ⟨z, cs', rfl, h1, h2⟩ := h
    exact ⟨z, cs' ++ [aint l.n, y], rfl, h1, LvsX.snoc h2 hy⟩
theorem LvsX.rel : ∀ {ls : List Lv} {cs : List AV}, LvsX ls cs → LvsR ls cs
  | [], cs, h => trivial
  | l :: r, cs, h => by
    simp only [LvsX] at h
    obtain ⟨z, cs', rfl, ⟨⟨vs, h1, h3⟩, _⟩, h2⟩ := h
    exact ⟨⟨z, vs, rfl, h1, h3⟩, LvsX.rel h2⟩

/-- A row of levels that leads to no block. -/
def SlL (ls : List Lv) (x : AV) : Prop := (∃ cs, SlR ls.length x cs ∧ LvsR ls cs) ∧ Old 0 x
theorem SlL.of {ls : List Lv} {y : AV} {cs : List AV} (hc : LvsX ls cs) (h : (ls.length = 0 ∧ y = .v (.slice none 0 0)) ∨ ∃ lo ex, y = .ro ls.length lo ex cs ∧ ls.length ≤ lo) : SlL ls y := by
  refine ⟨⟨_, h, hc.rel⟩, ?_⟩
  rcases h with ⟨_, rfl⟩ | ⟨lo, ex, rfl, _⟩
  · exact .v _
  · exact .ro _ _ _ _ hc.old
theorem sll_nil : SlL [] nils := ⟨⟨[], .inl ⟨rfl, rfl⟩, trivial⟩, .v _⟩
theorem slv_one {vars : List (Int × Int)} {y : AV} (h : SlV vars y) : y.one = true := by obtain ⟨⟨cs, h, _⟩, _⟩ := h; exact h.one
theorem slv_cells {vars : List (Int × Int)} {y : AV} (h : SlV vars y) : y.acells = [y] := by obtain ⟨⟨cs, h, _⟩, _⟩ := h; exact h.cells

theorem OutS.notlow {H : AHeap} {base es n : Nat} {l : List AV} {x : AV} (h : OutS H base es n l x) {b : Nat} (hb : b < base) : ∀ off es' n' lo ex, x ≠ .slc b off es' n' lo ex := by
  intro off es' n' lo ex hx
  rcases h with ⟨_, _, rfl⟩ | ⟨b0, g1, g2, rfl, g3⟩
  · cases hx
  · injection hx with hx; omega

theorem OutS.nothere {H : AHeap} {base es n : Nat} {l : List AV} {x : AV} (h : OutS H base es n l x) : ∀ off es' n' lo ex, x ≠ .slc H.next off es' n' lo ex := by
  intro off es' n' lo ex hx
  rcases h with ⟨_, _, rfl⟩ | ⟨b0, g1, g2, rfl, g3⟩
  · cases hx
  · injection hx with hx; omega

set_option maxRecDepth 100000 in
theorem levelsCopy_ok (lv : List Lv) (lx : AV) (ls : List AV) (h1 : SlR lv.length lx ls) (h2 : LvsR lv ls) (hn : lv.length * 32 ≤ 140737488351232) (hv : ∀ l ∈ lv, l.vars.length * 16 ≤ 140737488351232) (H : AHeap) :
    SCall Try.prog 197 [lx] H fun y H' => SlL lv y ∧ H' = H := by
  have main : SCall Try.prog 197 [lx] H fun y H' => Ext H H' ∧ ∃ cs, LvsX lv cs ∧ OutS H' H.next 2 lv.length cs y := by
    refine SCall.intro mixed cf197 ?_
    simp -implicitDefEqProofs only [c197, go_sem, Nat.reduceEqDiff, Nat.reduceAdd, Nat.reduceLeDiff, ↓reduceIte, reduceCtorEq, Int.reduceBEq, Int.reduceBNe, Int.reduceLT, Int.reduceLE, Int.reduceGT, Int.reduceGE, Int.reduceNeg, Int.reduceAdd, Int.reduceSub, Nat.reduceMul, Nat.reduceLT, Int.reduceToNat, fun H => h1.alen H]
    refine swp_range lv.length (fun i st => st.tm 6 = lx ∧ st.tm 7 = aint lv.length ∧ st.tm 8 = aint i ∧ Ext H st.heap ∧ ∃ x cs, st.tm 3 = x ∧ LvsX (lv.take i) cs ∧ OutS st.heap H.next 2 i cs x) ?_ ?_ ?_
    · exact ⟨rfl, rfl, rfl, Ext.refl H, _, [], rfl, rfl, .nil⟩
    · rintro i ⟨tm, H2⟩ hi ⟨t6, t7, t8, hE, x, cs, t3, hX, hO⟩
      simp only at t3 t6 t7 t8 hE hO
      have hltI : (i : Int) < (lv.length : Int) := by omega
      have hix := h1.aix 2 hi
      obtain ⟨vx, vs, hle, hld, hv1, hv2⟩ := h2.at (List.getElem?_eq_getElem hi)
      have w3 : IntKind.i64.wrap ((i : Int) + 1) = (i : Int) + 1 := i64_ok _ (by omega)
      have hXl := hX.len
      rw [List.length_take, Nat.min_eq_left (by omega)] at hXl
      simp -implicitDefEqProofs only [go_sem, Nat.reduceEqDiff, Nat.reduceAdd, Nat.reduceLeDiff, ↓reduceIte, reduceCtorEq, Int.reduceBEq, Int.reduceBNe, Int.reduceLT, Int.reduceLE, Int.reduceGT, Int.reduceGE, Int.reduceNeg, Int.reduceAdd, Int.reduceSub, Nat.reduceMul, Nat.reduceLT, Int.reduceToNat, t3, t6, t7, t8, hltI, hix, hle, hld, hv1.one, hv1.cells]
      refine i_callA (fs := []) (cs := []) (fid := 211) ?_ ?_ (clone_ok lv[i].vars vx vs hv1 hv2 (hv _ (List.getElem_mem hi)) _) ?_
      · rfl
      · simp -implicitDefEqProofs only [go_sem, Nat.reduceEqDiff, Nat.reduceAdd, Nat.reduceLeDiff, ↓reduceIte, reduceCtorEq, Int.reduceBEq, Int.reduceBNe, Int.reduceLT, Int.reduceLE, Int.reduceGT, Int.reduceGE, Int.reduceNeg, Int.reduceAdd, Int.reduceSub, Nat.reduceMul, Nat.reduceLT, Int.reduceToNat]
      rintro y H3 ⟨hy, rfl⟩
      simp -implicitDefEqProofs only [go_sem, Nat.reduceEqDiff, Nat.reduceAdd, Nat.reduceLeDiff, ↓reduceIte, reduceCtorEq, Int.reduceBEq, Int.reduceBNe, Int.reduceLT, Int.reduceLE, Int.reduceGT, Int.reduceGE, Int.reduceNeg, Int.reduceAdd, Int.reduceSub, Nat.reduceMul, Nat.reduceLT, Int.reduceToNat, t3, t6, t7, t8, slv_one hy, slv_cells hy, afill]
      refine (((hO.new _).set hO.nothere _).new _).step (m := 1) (new := [aint lv[i].n, y]) (asrc_slc (c := [aint lv[i].n, y]) (by rw [new_get]; exact if_pos rfl) (by simp)) (by simp [slv_one hy, one_int]) (by omega) (by omega) ⟨by omega, by omega⟩ rfl (by rw [new_next, set_next, new_next]; have := hE.1; omega) fun x' G' q6 q7 q8 => ?_
      rw [new_next, set_next, new_next] at q7
      have hEG : Ext H G' := ⟨by have := hE.1; omega, fun b hb => by
        have hb2 := hE.1
        rw [q8 b (by rw [new_next, set_next, new_next]; omega) (hO.notlow (by omega)), new_get, if_neg (by rw [set_next, new_next]; omega), set_get, if_neg (by omega), new_get, if_neg (by omega)]
        exact hE.2 b hb⟩
      simp -implicitDefEqProofs only [go_sem, Nat.reduceEqDiff, Nat.reduceAdd, Nat.reduceLeDiff, ↓reduceIte, reduceCtorEq, Int.reduceBEq, Int.reduceBNe, Int.reduceLT, Int.reduceLE, Int.reduceGT, Int.reduceGE, Int.reduceNeg, Int.reduceAdd, Int.reduceSub, Nat.reduceMul, Nat.reduceLT, Int.reduceToNat, t8, w3]
      refine ⟨t6, t7, by simp, hEG, _, cs ++ [aint lv[i].n, y], rfl, ?_, q6⟩
      rw [List.take_succ_eq_append_getElem hi]
      exact hX.snoc hy
    · rintro ⟨tm, H2⟩ ⟨t6, t7, t8, hE, x, cs, t3, hX, hO⟩
      simp only at t3 t6 t7 t8 hE hO
      rw [List.take_length] at hX
      simp -implicitDefEqProofs only [go_sem, Nat.reduceEqDiff, Nat.reduceAdd, Nat.reduceLeDiff, ↓reduceIte, reduceCtorEq, Int.reduceBEq, Int.reduceBNe, Int.reduceLT, Int.reduceLE, Int.reduceGT, Int.reduceGE, Int.reduceNeg, Int.reduceAdd, Int.reduceSub, Nat.reduceMul, Nat.reduceLT, Int.reduceToNat, t3, t6, t7, t8, Int.lt_irrefl]
      exact ⟨hE, cs, hX, hO⟩
  refine main.frz fun _ _ y H' ⟨hE, cs, hX, hO⟩ _ => ⟨hE, ?_⟩
  obtain ⟨z, h3, h4⟩ := hO.frzOld (Nat.le_refl _) (fun y hy => (hX.old y hy).mono (Nat.zero_le _))
  exact ⟨z, h3, SlL.of hX h4⟩

def zeroS : ByteArray := ByteArray.mk #[]
/-- A term's own fields that its form has, without kids. -/
def bareT : Tm → Tm
  | .mk f n h s lv _ => .mk f (if f = 1 ∨ f = 11 then n else 0) (if f = 3 ∨ f = 4 ∨ f = 5 then h else false) (if f = 10 then s else zeroS) (if f = 2 ∨ f = 10 then lv else []) []

/-- A term in cells that lead to no block. -/
def TmP (t : Tm) (c : List AV) : Prop := TmR t c ∧ ∀ y ∈ c, Old 0 y

theorem tmp_bare {f n : Int} {h : Bool} {s : ByteArray} {lv : List Lv} {y : AV} (hy : SlL lv y) : TmP (.mk f n h s lv []) [aint f, aint n, abl h, .v (.string s), y, nils] := by
  obtain ⟨⟨cs, h1, h2⟩, h3⟩ := hy
  refine ⟨?_, fun z hz => ?_⟩
  · simp only [TmR]
    exact ⟨y, nils, cs, [], rfl, h1, h2, .inl ⟨rfl, rfl⟩, trivial⟩
  · simp at hz
    rcases hz with rfl | rfl | rfl | rfl | rfl | rfl
    · exact .v _
    · exact .v _
    · exact .v _
    · exact .v _
    · exact h3
    · exact .v _

set_option maxRecDepth 100000 in
theorem bare_ok (t : Tm) (hb : TmB t) (cells : List AV) (hT : TmR t cells) (H : AHeap) : SCall Try.prog 171 [.agg cells] H fun x H' => (∃ c, x = .agg c ∧ TmP (bareT t) c) ∧ H' = H := by
  obtain ⟨f, n, hid, s, lv, ks⟩ := t
  obtain ⟨lx, kx, ls, cs, rfl, hl1, hl2, hk1, hk2⟩ := hT.six
  simp only [TmB, Tm.form, Tm.n, Tm.hid, Tm.name, Tm.lv, Tm.kids] at *
  obtain ⟨_, _, a1, a2, a3, a4⟩ := hb
  have hlb : ∀ l ∈ lv, l.vars.length * 16 ≤ 140737488351232 := fun l hl => (a4 l hl).2.1
  have e1 : ¬ H.next = H.next + 1 := by omega
  have e2 : ¬ H.next + 1 = H.next := by omega
  have e3 : ¬ H.next = H.next + 1 + 1 := by omega
  have e4 : ¬ H.next + 1 = H.next + 1 + 1 := by omega
  have e5 : ¬ H.next + 1 + 1 = H.next := by omega
  have e6 : ¬ H.next + 1 + 1 = H.next + 1 := by omega
  have hE : ∀ o1 o2 o3 o4 o5 o6, Ext H ((((((H.new o1).new o2).new o3).set (H.next + 1 + 1) o4).set (H.next + 1 + 1) o5).set (H.next + 1) o6) := fun o1 o2 o3 o4 o5 o6 => (((((Ext.refl H).new _).new _).new _).set (by omega) _).set (by omega) _ |>.set (by omega) _
  have hE7 : ∀ o1 o2 o3 o4 o5 o6 o7, Ext H (((((((H.new o1).new o2).new o3).set (H.next + 1 + 1) o4).set (H.next + 1 + 1) o5).set (H.next + 1 + 1) o6).set (H.next + 1) o7) := fun o1 o2 o3 o4 o5 o6 o7 => (((((Ext.refl H).new _).new _).new _).set (by omega) _).set (by omega) _ |>.set (by omega) _ |>.set (by omega) _
  have hE4 : ∀ o1 o2 o3 o4 o5, Ext H (((((H.new o1).new o2).new o3).set (H.next + 1 + 1) o4).set (H.next + 1) o5) := fun o1 o2 o3 o4 o5 => (((((Ext.refl H).new _).new _).new _).set (by omega) _).set (by omega) _
  have main : SCall Try.prog 171 [.agg [aint f, aint n, abl hid, .v (.string s), lx, kx]] H fun x H' => (∃ c, x = .agg c ∧ TmP (bareT (.mk f n hid s lv ks)) c) ∧ Ext H H' := by
    refine SCall.intro mixed cf171 ?_
    by_cases c1 : f = 1 ∨ f = 11
    · have hbt : bareT (.mk f n hid s lv ks) = .mk f n false zeroS [] [] := by
        simp only [bareT]
        rcases c1 with rfl | rfl <;> rfl
      rw [hbt]
      rcases c1 with rfl | rfl
      · simp -implicitDefEqProofs only [c171, go_sem, Nat.reduceEqDiff, Nat.reduceAdd, Nat.reduceLeDiff, ↓reduceIte, reduceCtorEq, Int.reduceBEq, Int.reduceBNe, Int.reduceLT, Int.reduceLE, Int.reduceGT, Int.reduceGE, Int.reduceNeg, Int.reduceAdd, Int.reduceSub, Nat.reduceMul, Nat.reduceLT, Int.reduceToNat, hl1.one, hl1.cells, hk1.one, hk1.cells, afill, e1, e2, e3, e4, e5, e6]
        exact ⟨⟨_, rfl, tmp_bare sll_nil⟩, hE _ _ _ _ _ _⟩
      · simp -implicitDefEqProofs only [c171, go_sem, Nat.reduceEqDiff, Nat.reduceAdd, Nat.reduceLeDiff, ↓reduceIte, reduceCtorEq, Int.reduceBEq, Int.reduceBNe, Int.reduceLT, Int.reduceLE, Int.reduceGT, Int.reduceGE, Int.reduceNeg, Int.reduceAdd, Int.reduceSub, Nat.reduceMul, Nat.reduceLT, Int.reduceToNat, hl1.one, hl1.cells, hk1.one, hk1.cells, afill, e1, e2, e3, e4, e5, e6]
        exact ⟨⟨_, rfl, tmp_bare sll_nil⟩, hE _ _ _ _ _ _⟩
    by_cases c2 : f = 3 ∨ f = 4 ∨ f = 5
    · have hbt : bareT (.mk f n hid s lv ks) = .mk f 0 hid zeroS [] [] := by
        simp only [bareT]
        rcases c2 with rfl | rfl | rfl <;> rfl
      rw [hbt]
      rcases c2 with rfl | rfl | rfl
      · simp -implicitDefEqProofs only [c171, go_sem, Nat.reduceEqDiff, Nat.reduceAdd, Nat.reduceLeDiff, ↓reduceIte, reduceCtorEq, Int.reduceBEq, Int.reduceBNe, Int.reduceLT, Int.reduceLE, Int.reduceGT, Int.reduceGE, Int.reduceNeg, Int.reduceAdd, Int.reduceSub, Nat.reduceMul, Nat.reduceLT, Int.reduceToNat, hl1.one, hl1.cells, hk1.one, hk1.cells, afill, e1, e2, e3, e4, e5, e6]
        exact ⟨⟨_, rfl, tmp_bare sll_nil⟩, hE _ _ _ _ _ _⟩
      · simp -implicitDefEqProofs only [c171, go_sem, Nat.reduceEqDiff, Nat.reduceAdd, Nat.reduceLeDiff, ↓reduceIte, reduceCtorEq, Int.reduceBEq, Int.reduceBNe, Int.reduceLT, Int.reduceLE, Int.reduceGT, Int.reduceGE, Int.reduceNeg, Int.reduceAdd, Int.reduceSub, Nat.reduceMul, Nat.reduceLT, Int.reduceToNat, hl1.one, hl1.cells, hk1.one, hk1.cells, afill, e1, e2, e3, e4, e5, e6]
        exact ⟨⟨_, rfl, tmp_bare sll_nil⟩, hE _ _ _ _ _ _⟩
      · simp -implicitDefEqProofs only [c171, go_sem, Nat.reduceEqDiff, Nat.reduceAdd, Nat.reduceLeDiff, ↓reduceIte, reduceCtorEq, Int.reduceBEq, Int.reduceBNe, Int.reduceLT, Int.reduceLE, Int.reduceGT, Int.reduceGE, Int.reduceNeg, Int.reduceAdd, Int.reduceSub, Nat.reduceMul, Nat.reduceLT, Int.reduceToNat, hl1.one, hl1.cells, hk1.one, hk1.cells, afill, e1, e2, e3, e4, e5, e6]
        exact ⟨⟨_, rfl, tmp_bare sll_nil⟩, hE _ _ _ _ _ _⟩
    by_cases c3 : f = 2
    · subst c3
      have hbt : bareT (.mk 2 n hid s lv ks) = .mk 2 0 false zeroS lv [] := rfl
      rw [hbt]
      simp -implicitDefEqProofs only [c171, go_sem, Nat.reduceEqDiff, Nat.reduceAdd, Nat.reduceLeDiff, ↓reduceIte, reduceCtorEq, Int.reduceBEq, Int.reduceBNe, Int.reduceLT, Int.reduceLE, Int.reduceGT, Int.reduceGE, Int.reduceNeg, Int.reduceAdd, Int.reduceSub, Nat.reduceMul, Nat.reduceLT, Int.reduceToNat, hl1.one, hl1.cells, hk1.one, hk1.cells, afill, e1, e2, e3, e4, e5, e6]
      refine i_callA (fs := []) (cs := []) (fid := 197) ?_ ?_ (levelsCopy_ok lv lx ls hl1 hl2 a2 hlb _) ?_
      · rfl
      · simp -implicitDefEqProofs only [go_sem, Nat.reduceEqDiff, Nat.reduceAdd, Nat.reduceLeDiff, ↓reduceIte, reduceCtorEq, Int.reduceBEq, Int.reduceBNe, Int.reduceLT, Int.reduceLE, Int.reduceGT, Int.reduceGE, Int.reduceNeg, Int.reduceAdd, Int.reduceSub, Nat.reduceMul, Nat.reduceLT, Int.reduceToNat]
      rintro y H3 ⟨hy, rfl⟩
      obtain ⟨⟨ys, hy1, hy2⟩, hy3⟩ := id hy
      simp -implicitDefEqProofs only [go_sem, Nat.reduceEqDiff, Nat.reduceAdd, Nat.reduceLeDiff, ↓reduceIte, reduceCtorEq, Int.reduceBEq, Int.reduceBNe, Int.reduceLT, Int.reduceLE, Int.reduceGT, Int.reduceGE, Int.reduceNeg, Int.reduceAdd, Int.reduceSub, Nat.reduceMul, Nat.reduceLT, Int.reduceToNat, hy1.one, hy1.cells, e1, e2, e3, e4, e5, e6]
      exact ⟨⟨_, rfl, tmp_bare hy⟩, hE _ _ _ _ _ _⟩
    by_cases c4 : f = 10
    · subst c4
      have hbt : bareT (.mk 10 n hid s lv ks) = .mk 10 0 false s lv [] := rfl
      rw [hbt]
      simp -implicitDefEqProofs only [c171, go_sem, Nat.reduceEqDiff, Nat.reduceAdd, Nat.reduceLeDiff, ↓reduceIte, reduceCtorEq, Int.reduceBEq, Int.reduceBNe, Int.reduceLT, Int.reduceLE, Int.reduceGT, Int.reduceGE, Int.reduceNeg, Int.reduceAdd, Int.reduceSub, Nat.reduceMul, Nat.reduceLT, Int.reduceToNat, hl1.one, hl1.cells, hk1.one, hk1.cells, afill, e1, e2, e3, e4, e5, e6]
      refine i_callA (fs := []) (cs := []) (fid := 197) ?_ ?_ (levelsCopy_ok lv lx ls hl1 hl2 a2 hlb _) ?_
      · rfl
      · simp -implicitDefEqProofs only [go_sem, Nat.reduceEqDiff, Nat.reduceAdd, Nat.reduceLeDiff, ↓reduceIte, reduceCtorEq, Int.reduceBEq, Int.reduceBNe, Int.reduceLT, Int.reduceLE, Int.reduceGT, Int.reduceGE, Int.reduceNeg, Int.reduceAdd, Int.reduceSub, Nat.reduceMul, Nat.reduceLT, Int.reduceToNat]
      rintro y H3 ⟨hy, rfl⟩
      obtain ⟨⟨ys, hy1, hy2⟩, hy3⟩ := id hy
      simp -implicitDefEqProofs only [go_sem, Nat.reduceEqDiff, Nat.reduceAdd, Nat.reduceLeDiff, ↓reduceIte, reduceCtorEq, Int.reduceBEq, Int.reduceBNe, Int.reduceLT, Int.reduceLE, Int.reduceGT, Int.reduceGE, Int.reduceNeg, Int.reduceAdd, Int.reduceSub, Nat.reduceMul, Nat.reduceLT, Int.reduceToNat, hy1.one, hy1.cells, e1, e2, e3, e4, e5, e6]
      exact ⟨⟨_, rfl, tmp_bare hy⟩, hE7 _ _ _ _ _ _ _⟩
    · have hbt : bareT (.mk f n hid s lv ks) = .mk f 0 false zeroS [] [] := by
        simp only [bareT]
        rw [if_neg c1, if_neg c2, if_neg c4, if_neg (by rintro (h | h); exact c3 h; exact c4 h)]
      rw [hbt]
      simp -implicitDefEqProofs only [c171, go_sem, Nat.reduceEqDiff, Nat.reduceAdd, Nat.reduceLeDiff, ↓reduceIte, reduceCtorEq, Int.reduceBEq, Int.reduceBNe, Int.reduceLT, Int.reduceLE, Int.reduceGT, Int.reduceGE, Int.reduceNeg, Int.reduceAdd, Int.reduceSub, Nat.reduceMul, Nat.reduceLT, Int.reduceToNat, hl1.one, hl1.cells, hk1.one, hk1.cells, afill, e1, e2, e3, e4, e5, e6, bne' (fun h => c1 (.inl h)), bne' (fun h => c1 (.inr h)), bne' (fun h => c2 (.inl h)), bne' (fun h => c2 (.inr (.inl h))), bne' (fun h => c2 (.inr (.inr h))), bne' c3, bne' c4]
      exact ⟨⟨_, rfl, tmp_bare sll_nil⟩, hE4 _ _ _ _ _⟩
  refine main.frz fun _ _ x H' ⟨⟨c, hx, hc⟩, hE⟩ _ => ⟨hE, x, .keep _ ?_, c, hx, hc⟩
  subst hx
  exact .agg _ fun y hy => (hc.2 y hy).mono (Nat.zero_le _)
end Go.Proofs.Ytooaiddfokbffaa.E

/- A term made anew by the code's Map. Conditions: none. -/
set_option linter.unusedVariables false
set_option linter.unusedSimpArgs false
namespace Go.Proofs.Ytooaiddfokbffaa.E
open Go Go.Proofs

/-! ### Two blocks that are turned -/
def put2 (bl bb : Nat) (m : Int) (c : List AV) (G : AHeap) : AHeap := (G.set bl (.cells [aint m])).set bb (.cells c)
section
variable {bl bb : Nat} {m m' : Int} {c c' : List AV} {G H : AHeap}
theorem put2_get (x : Nat) : (put2 bl bb m c G).get x = if x = bb then some (.cells c) else if x = bl then some (.cells [aint m]) else G.get x := rfl
theorem put2_next : (put2 bl bb m c G).next = G.next := rfl
theorem put2_self (h1 : G.get bl = some (.cells [aint m])) (h2 : G.get bb = some (.cells c)) : put2 bl bb m c G = G := by
  unfold put2
  rw [AHeap.set_self h1, AHeap.set_self h2]
theorem set_put2 (hne : bl ≠ bb) (h2 : G.get bb = some (.cells c)) : G.set bl (.cells [aint m]) = put2 bl bb m c G := by
  unfold put2
  rw [AHeap.set_self (b := bb)]
  rw [set_get, if_neg (fun h => hne h.symm)]
  exact h2
theorem Ext.put2 (h : Ext (put2 bl bb m c H) G) : Ext (E.put2 bl bb m' c' H) (E.put2 bl bb m' c' G) := ⟨h.1, fun x hx => by
  rw [put2_get, put2_get]
  by_cases h1 : x = bb
  · rw [if_pos h1, if_pos h1]
  · by_cases h2 : x = bl
    · rw [if_neg h1, if_pos h2, if_neg h1, if_pos h2]
    · rw [if_neg h1, if_neg h2, if_neg h1, if_neg h2]
      have := h.2 x hx
      rwa [put2_get, if_neg h1, if_neg h2] at this⟩
theorem Ext.l2 (h : Ext (E.put2 bl bb m c H) G) (hne : bl ≠ bb) (hb : bl < H.next) : G.get bl = some (.cells [aint m]) := by
  rw [h.2 bl hb, put2_get, if_neg hne, if_pos rfl]
theorem Ext.b2 (h : Ext (E.put2 bl bb m c H) G) (hb : bb < H.next) : G.get bb = some (.cells c) := by
  rw [h.2 bb hb, put2_get, if_pos rfl]
theorem Ext.self2 (h1 : H.get bl = some (.cells [aint m])) (h2 : H.get bb = some (.cells c)) (h : Ext H G) : Ext (E.put2 bl bb m c H) G := by
  rw [put2_self h1 h2]; exact h
end

theorem SCall.frzAt2 {P : Program} {f : FuncId} {args : List AV} {H : AHeap} {R : AV → AHeap → Prop} {G : AV → Prop} (bl bb : Nat) (m : Int) (c : List AV) (hl : bl < H.next) (hb : bb < H.next) (hc : ∀ x ∈ c, Old 0 x) (h : SCall P f args H R)
    (ho : (∀ y, y ∈ args → Old H.next y) → WfH H → ∀ x H', R x H' → WfH H' → Ext (put2 bl bb m c H) H' ∧ ∃ y, FrzN H.next H' x y ∧ G y) : SCall P f args H fun y H' => G y ∧ H' = put2 bl bb m c H :=
  h.frzTo fun ha hw x H' hr hw' => by
    obtain ⟨⟨h1, h2⟩, y, h3, h4⟩ := ho ha hw x H' hr hw'
    refine ⟨put2 bl bb m c H, rfl, fun x o hx => ?_, h1, h2, fun x hx o hg => ?_, y, h3, h4, rfl⟩
    · rw [put2_get] at hx
      rw [put2_next]
      split at hx
      · omega
      · split at hx
        · omega
        · exact hw x o hx
    · rw [put2_get] at hg
      split at hg
      · injection hg with hg
        subst hg
        exact .inr (.cells _ fun y hy => (hc y hy).mono (Nat.zero_le _))
      · split at hg
        · injection hg with hg
          subst hg
          exact .inr (.cells _ fun y hy => by simp at hy; subst hy; exact .v _)
        · exact .inl hg

/-! ### What Map makes -/
def zeroTm : Tm := .mk 0 0 false zeroS [] []
def Tm.with : Tm → List Tm → Tm
  | .mk f n h s lv _, ks => .mk f n h s lv ks
abbrev MD := Tm → Int → Int → List AV → Option Tm × Int × List AV
section
variable (D : MD)
mutual
def mapT (deep m : Int) (c : List AV) : Tm → Tm × Int × List AV
  | .mk f n h s lv ks => if m - 1 < 0 then (zeroTm, m - 1, c) else
      match (D (.mk f n h s lv ks) deep (m - 1) c).1 with
      | some x => (x, (D (.mk f n h s lv ks) deep (m - 1) c).2.1, (D (.mk f n h s lv ks) deep (m - 1) c).2.2)
      | none => ((bareT (.mk f n h s lv ks)).with (mapK f 0 deep (D (.mk f n h s lv ks) deep (m - 1) c).2.1 (D (.mk f n h s lv ks) deep (m - 1) c).2.2 ks).1,
          (mapK f 0 deep (D (.mk f n h s lv ks) deep (m - 1) c).2.1 (D (.mk f n h s lv ks) deep (m - 1) c).2.2 ks).2)
def mapK (f : Int) (i : Nat) (deep m : Int) (c : List AV) : List Tm → List Tm × Int × List AV
  | [] => ([], m, c)
  | k :: r => ((mapT (underF f i deep) m c k).1 :: (mapK f (i + 1) deep (mapT (underF f i deep) m c k).2.1 (mapT (underF f i deep) m c k).2.2 r).1,
      (mapK f (i + 1) deep (mapT (underF f i deep) m c k).2.1 (mapT (underF f i deep) m c k).2.2 r).2)
end
end

theorem map_bound {D : MD} {W : Nat} (hD : ∀ t deep m c, m - W ≤ (D t deep m c).2.1 ∧ (D t deep m c).2.1 ≤ m) :
    ∀ t, ∀ deep m c, m - szT t * (W + 1) ≤ (mapT D deep m c t).2.1 ∧ (mapT D deep m c t).2.1 ≤ m := by
  refine Tm.rule fun f n hd s lv ks ih deep m c => ?_
  have hsz : ((szT (.mk f n hd s lv ks) : Nat) : Int) * (W + 1) = (W + 1) + szK ks * (W + 1) := by
    simp only [szT]
    push_cast
    rw [Int.add_mul, Int.one_mul]
  rw [hsz, mapT]
  have hpos : (0 : Int) ≤ szK ks * (W + 1) := Int.mul_nonneg (by omega) (by omega)
  by_cases h0 : m - 1 < 0
  · rw [if_pos h0]; simp only; omega
  rw [if_neg h0]
  obtain ⟨d1, d2⟩ := hD (.mk f n hd s lv ks) deep (m - 1) c
  split
  · simp only; omega
  · have key : ∀ ks', (∀ k ∈ ks', k ∈ ks) → ∀ (i : Nat) m c, m - szK ks' * (W + 1) ≤ (mapK D f i deep m c ks').2.1 ∧ (mapK D f i deep m c ks').2.1 ≤ m := by
      intro ks'
      induction ks' with
      | nil => intro _ i m c; simp [mapK, szK]
      | cons k r ih' =>
        intro hm i m c
        simp only [mapK, szK]
        obtain ⟨k1, k2⟩ := ih k (hm k (List.mem_cons_self ..)) (underF f i deep) m c
        obtain ⟨r1, r2⟩ := ih' (fun k hk => hm k (List.mem_cons_of_mem _ hk)) (i + 1) (mapT D (underF f i deep) m c k).2.1 (mapT D (underF f i deep) m c k).2.2
        push_cast
        rw [Int.add_mul]
        omega
    obtain ⟨r1, r2⟩ := key ks (fun _ h => h) 0 (D (.mk f n hd s lv ks) deep (m - 1) c).2.1 (D (.mk f n hd s lv ks) deep (m - 1) c).2.2
    simp only
    omega

theorem map_inv {D : MD} {Pt : Tm → Prop} {Inv : List AV → Prop} (hI : ∀ t deep m c, Pt t → Inv c → Inv (D t deep m c).2.2) :
    ∀ t, Tm.All Pt t → ∀ deep m c, Inv c → Inv (mapT D deep m c t).2.2 := by
  refine Tm.rule fun f n hd s lv ks ih ha deep m c hc => ?_
  simp only [Tm.All] at ha
  rw [mapT]
  split
  · exact hc
  have h0 := hI _ deep (m - 1) c ha.1 hc
  split
  · exact h0
  · have key : ∀ ks', (∀ k ∈ ks', k ∈ ks) → ∀ (i : Nat) m c, Inv c → Inv (mapK D f i deep m c ks').2.2 := by
      intro ks'
      induction ks' with
      | nil => intro _ i m c h; exact h
      | cons k r ih' =>
        intro hm i m c h
        simp only [mapK]
        exact ih' (fun k hk => hm k (List.mem_cons_of_mem _ hk)) (i + 1) _ _ (ih k (hm k (List.mem_cons_self ..)) (ha.2.mem k (hm k (List.mem_cons_self ..))) _ m c h)
    exact key ks (fun _ h => h) 0 _ _ h0

theorem ksR_of : ∀ (ks : List Tm) (l : List AV), l.length = ks.length * 6 → (∀ (i : Nat) (k : Tm), ks[i]? = some k → TmR k ((l.drop (i * 6)).take 6)) → KsR ks l
  | [], l, _, _ => trivial
  | k :: ks, l, hl, h => by
    simp only [List.length_cons] at hl
    simp only [KsR]
    have h0 := h 0 k rfl
    rw [Nat.zero_mul, List.drop_zero] at h0
    refine ⟨h0, ksR_of ks (l.drop 6) (by rw [List.length_drop]; omega) fun i k' hk => ?_⟩
    have := h (i + 1) k' (by simpa using hk)
    rw [List.drop_drop, show 6 + i * 6 = (i + 1) * 6 by omega]
    exact this

theorem TmP.six {t : Tm} {c : List AV} (h : TmP t c) : ∃ lx kx, c = [aint t.form, aint t.n, abl t.hid, .v (.string t.name), lx, kx] ∧ lx.one = true ∧ kx.one = true ∧ lx.acells = [lx] ∧ kx.acells = [kx] ∧ Old 0 lx ∧ Old 0 kx ∧ c.length = 6 ∧ c.all AV.one = true := by
  obtain ⟨lx, kx, ls, cs, rfl, h1, h2, h3, h4⟩ := h.1.six
  exact ⟨lx, kx, rfl, h1.one, h3.one, h1.cells, h3.cells, h.2 lx (by simp), h.2 kx (by simp), rfl, by simp [h1.one, h3.one, one_int, one_bool, one_str]⟩

abbrev z6 : List AV := [aint 0, aint 0, abl false, nostr, nils, nils]
theorem tmp_zero : TmP zeroTm z6 := tmp_bare sll_nil

theorem make_kids (n : Nat) (hn : n * 88 ≤ 140737488351232) (G : AHeap) : amake z6 88 G (aint n) (aint n) = some (.slc G.next 0 6 n n true, G.new (.cells (List.replicate n z6).flatten)) := by
  simp only [amake]
  rw [if_pos ⟨by omega, by omega, by omega, by omega, by simp⟩]
  simp

end Go.Proofs.Ytooaiddfokbffaa.E

/- The code's Map makes what it should. Conditions: none. -/
set_option linter.unusedVariables false
set_option linter.unusedSimpArgs false
namespace Go.Proofs.Ytooaiddfokbffaa.E
open Go Go.Proofs
attribute [local go_sem] s_seq s_ops s_draw s_block s_skip s_ret s_exit i_nil i_cons i_run i_runG s_condQ c_true c_false aop ev_t ev_c updO_at updO_no upd_at t_normal t_ret t_exit b_normal b_ret b_exit a_some ac_v ac_agg ac_ptr ac_slc ac_ro ac_rop ac_fn new_next set_next argTm_zero argTm_succ argTm_nil ab_bool ab_uv beq_self_eq_true Option.some_beq_some Bool.not_not beq_iff_eq decide_true decide_false Bool.not_true Bool.not_false afld aload astore apack alen_str alen_ro alen_slc alen_nil new_get set_get ite_true ite_false Option.map_some Option.bind_some ibin isShift Nat.add_zero Nat.zero_add List.length_cons List.length_nil List.drop_zero List.drop_succ_cons List.take_succ_cons List.take_zero if_true if_false setL List.set_cons_zero List.set_cons_succ List.all_cons List.all_nil one_int one_bool one_str one_nil one_ptr one_slc one_ro one_rop one_fn Bool.and_self Bool.and_true true_and and_true and_self Bool.false_eq_true post_ret post_normal resAll resOne packR Option.some.injEq exists_eq_left' List.map_cons List.map_nil List.nil_append List.append_nil List.cons_append d_nil d_cons k_nil k_cons g_op g_same g_new avBlock forall_eq' List.getElem?_cons_succ List.getElem?_cons_zero List.getElem?_nil okind gOk bne false_imp_iff forall_const imp_self implies_true true_imp_iff i_callG

theorem frz_kids {N : Nat} {H' : AHeap} {a1 a2 a3 a4 a5 : AV} (o1 : Old 0 a1) (o2 : Old 0 a2) (o3 : Old 0 a3) (o4 : Old 0 a4) (o5 : Old 0 a5) {b n lo : Nat} {ex : Bool} {l : List AV} (hg : H'.get b = some (.cells l)) (hb : N ≤ b) (hold : ∀ y ∈ l, Old 0 y) :
    FrzN N H' (.agg [a1, a2, a3, a4, a5, .slc b 0 6 n lo ex]) (.agg [a1, a2, a3, a4, a5, .ro n lo ex l]) := by
  refine FrzN.six (.keep _ (o1.mono (Nat.zero_le _))) (.keep _ (o2.mono (Nat.zero_le _))) (.keep _ (o3.mono (Nat.zero_le _))) (.keep _ (o4.mono (Nat.zero_le _))) (.keep _ (o5.mono (Nat.zero_le _))) ?_
  refine .slc b 0 6 _ _ _ l l hg hb (by omega) fun i x y hx hy => ?_
  rw [Nat.zero_add] at hx
  rw [hx] at hy
  injection hy with hy
  subst hy
  exact .keep _ ((hold x (List.mem_of_getElem? hx)).mono (Nat.zero_le _))

set_option maxRecDepth 100000 in
theorem map_okX {fid : FuncId} {fs cap : List AV} {bl bb : Nat} (hne : bl ≠ bb) {X : AHeap → Prop} (hX : ∀ G G' m c, X G → Ext (put2 bl bb m c G) G' → X G') {D : MD} {Pt : Tm → Prop} {Inv : List AV → Prop} {W : Nat}
    (hP : ∀ t, Pt t → TmB t) (hD : ∀ t deep m c, m - W ≤ (D t deep m c).2.1 ∧ (D t deep m c).2.1 ≤ m) (hI : ∀ t deep m c, Pt t → Inv c → Inv (D t deep m c).2.2) (hInv : ∀ c, Inv c → ∀ x ∈ c, Old 0 x)
    (hspec : ∀ (t : Tm) (cells : List AV) (deep m : Int) (c : List AV) (G : AHeap), Pt t → TmP t cells → 0 ≤ deep → deep ≤ 4611686018427387904 → 0 ≤ m → m ≤ 2305843009213693952 → -2305843009213693952 ≤ m - W → Inv c →
      G.get bl = some (.cells [aint m]) → G.get bb = some (.cells c) → bl < G.next → bb < G.next → X G →
      SCall Try.prog fid (fs ++ ([.agg cells, aint deep] ++ cap)) G fun x H' => (∃ xc, x = .tup [.agg xc, abl (D t deep m c).1.isSome] ∧ TmP ((D t deep m c).1.getD zeroTm) xc) ∧ H' = put2 bl bb (D t deep m c).2.1 (D t deep m c).2.2 G) :
    ∀ t, Tm.All Pt t → ∀ (cells : List AV), TmP t cells → ∀ (deep m : Int) (c : List AV), 0 ≤ deep → deep + htT t ≤ 4611686018427387904 → -2305843009213693952 ≤ m - szT t * (W + 1) → m ≤ 2305843009213693952 → Inv c →
      ∀ (H : AHeap), H.get bl = some (.cells [aint m]) → H.get bb = some (.cells c) → bl < H.next → bb < H.next → X H →
      SCall Try.prog 123 [.agg cells, aint deep, .ptr bl 0, .fn (.func fid) fs cap] H fun x H' => (∃ xc, x = .agg xc ∧ TmP (mapT D deep m c t).1 xc) ∧ H' = put2 bl bb (mapT D deep m c t).2.1 (mapT D deep m c t).2.2 H := by
  refine Tm.rule fun f n hid s lv ks ih ha cells hT deep m c hd0 hd1 hm0 hm1 hc H hgl hgb hl hb hXH => ?_
  have hT' := hT
  have hfin := hInv _ (map_inv hI _ ha deep m c hc)
  have hTc := hT.1
  obtain ⟨lx, kx, ls, cs, rfl, hl1, hl2, hk1, hk2⟩ := hTc.six
  simp only [Tm.All, Tm.form, Tm.n, Tm.hid, Tm.name, Tm.lv, Tm.kids] at *
  obtain ⟨a1, a5⟩ := ha
  have hTB := hP _ a1
  have hTB' := hTB
  simp only [TmB, Tm.form, Tm.n, Tm.name, Tm.lv, Tm.kids] at hTB'
  obtain ⟨_, _, b1, b2, b3, b4⟩ := hTB'
  have hsz : ((szT (.mk f n hid s lv ks) : Nat) : Int) * (W + 1) = (W + 1) + szK ks * (W + 1) := by
    simp only [szT]; push_cast; rw [Int.add_mul, Int.one_mul]
  rw [hsz] at hm0
  have hpos : (0 : Int) ≤ szK ks * (W + 1) := Int.mul_nonneg (by omega) (by omega)
  have hht : htT (.mk f n hid s lv ks) = 1 + htK ks := by simp only [htT]
  rw [hht] at hd1
  have n1 : ¬ bl = H.next := by omega
  have n2 : ¬ bl = H.next + 1 := by omega
  have n3 : ¬ bb = H.next := by omega
  have n4 : ¬ bb = H.next + 1 := by omega
  have n1' : ¬ H.next = bl := by omega
  have n2' : ¬ H.next + 1 = bl := by omega
  have e1 : ¬ H.next + 1 = H.next := by omega
  have e2 : ¬ H.next = H.next + 1 := by omega
  have w1 : IntKind.i64.wrap (m - 1) = m - 1 := i64_ok _ (by omega)
  refine SCall.frzAt2 bl bb _ _ hl hb hfin (R := fun x H' => Ext (put2 bl bb (mapT D deep m c (.mk f n hid s lv ks)).2.1 (mapT D deep m c (.mk f n hid s lv ks)).2.2 H) H' ∧ ∃ y, FrzN H.next H' x y ∧ ∃ xc, y = .agg xc ∧ TmP (mapT D deep m c (.mk f n hid s lv ks)).1 xc) (SCall.intro mixed cf123 ?_) (fun _ _ x H' ⟨h1, y, h2, h3⟩ _ => ⟨h1, y, h2, h3⟩)
  have keepP : ∀ {t : Tm} {xc : List AV} {H' : AHeap}, TmP t xc → ∃ y, FrzN H.next H' (.agg xc) y ∧ ∃ xc', y = .agg xc' ∧ TmP t xc' := fun {t xc H'} h => ⟨_, .keep _ (.agg _ fun y hy => (h.2 y hy).mono (Nat.zero_le _)), _, rfl, h⟩
  have hE0 : ∀ o1 o2, Ext (put2 bl bb (m - 1) c H) (((H.new o1).new o2).set bl (.cells [aint (m - 1)])) := fun o1 o2 => by
    have h2 : Ext (put2 bl bb m c H) ((H.new o1).new o2) := Ext.self2 hgl hgb (((Ext.refl H).new o1).new o2)
    rw [set_put2 (c := c) hne (h2.b2 hb)]
    exact h2.put2
  rw [mapT]
  by_cases h0 : m - 1 < 0
  · rw [if_pos h0]
    simp -implicitDefEqProofs only [c123, go_sem, Nat.reduceEqDiff, Nat.reduceAdd, Nat.reduceLeDiff, ↓reduceIte, reduceCtorEq, Int.reduceBEq, Int.reduceBNe, Int.reduceLT, Int.reduceLE, Int.reduceGT, Int.reduceGE, Int.reduceNeg, Int.reduceAdd, Int.reduceSub, Nat.reduceMul, Nat.reduceLT, Int.reduceToNat, hl1.one, hl1.cells, hk1.one, hk1.cells, e1, e2, n1, n2, n1', n2', hgl, w1, h0, afill]
    exact ⟨(hE0 _ _).set (by rw [put2_next]; omega) _, keepP tmp_zero⟩
  rw [if_neg h0]
  simp -implicitDefEqProofs only [c123, go_sem, Nat.reduceEqDiff, Nat.reduceAdd, Nat.reduceLeDiff, ↓reduceIte, reduceCtorEq, Int.reduceBEq, Int.reduceBNe, Int.reduceLT, Int.reduceLE, Int.reduceGT, Int.reduceGE, Int.reduceNeg, Int.reduceAdd, Int.reduceSub, Nat.reduceMul, Nat.reduceLT, Int.reduceToNat, hl1.one, hl1.cells, hk1.one, hk1.cells, e1, e2, n1, n2, n1', n2', hgl, w1, h0]
  -- the call of what does
  generalize hG3 : (((H.new (.cells [aint f, aint n, abl hid, .v (.string s), lx, kx])).new (.cells [aint 0, aint 0, abl false, nostr, nils, nils])).set bl (.cells [aint (m - 1)])) = G3
  have hEG : Ext (put2 bl bb (m - 1) c H) G3 := by rw [← hG3]; exact hE0 _ _
  have g30 : G3.get H.next = some (.cells [aint f, aint n, abl hid, .v (.string s), lx, kx]) := by rw [← hG3]; simp -implicitDefEqProofs only [go_sem, Nat.reduceEqDiff, Nat.reduceAdd, Nat.reduceLeDiff, ↓reduceIte, reduceCtorEq, Int.reduceBEq, Int.reduceBNe, Int.reduceLT, Int.reduceLE, Int.reduceGT, Int.reduceGE, Int.reduceNeg, Int.reduceAdd, Int.reduceSub, Nat.reduceMul, Nat.reduceLT, Int.reduceToNat, n1', e2]
  have g31 : G3.get (H.next + 1) = some (.cells z6) := by rw [← hG3]; simp -implicitDefEqProofs only [go_sem, Nat.reduceEqDiff, Nat.reduceAdd, Nat.reduceLeDiff, ↓reduceIte, reduceCtorEq, Int.reduceBEq, Int.reduceBNe, Int.reduceLT, Int.reduceLE, Int.reduceGT, Int.reduceGE, Int.reduceNeg, Int.reduceAdd, Int.reduceSub, Nat.reduceMul, Nat.reduceLT, Int.reduceToNat, n2']
  have g3n : G3.next = H.next + 2 := by rw [← hG3]; rfl
  obtain ⟨d1, d2⟩ := hD (.mk f n hid s lv ks) deep (m - 1) c
  refine i_callA (fid := fid) (fs := fs) (cs := cap) ?_ ?_ (hspec (.mk f n hid s lv ks) _ deep (m - 1) c G3 a1 hT' hd0 (by omega) (by omega) (by omega) (by omega) hc (hEG.l2 hne hl) (hEG.b2 hb) (by omega) (by omega) (hX _ _ _ _ hXH hEG)) ?_
  · rfl
  · simp -implicitDefEqProofs only [go_sem, Nat.reduceEqDiff, Nat.reduceAdd, Nat.reduceLeDiff, ↓reduceIte, reduceCtorEq, Int.reduceBEq, Int.reduceBNe, Int.reduceLT, Int.reduceLE, Int.reduceGT, Int.reduceGE, Int.reduceNeg, Int.reduceAdd, Int.reduceSub, Nat.reduceMul, Nat.reduceLT, Int.reduceToNat]
  rintro x H3 ⟨⟨xc, rfl, hxc⟩, rfl⟩
  have hc1 := hI (.mk f n hid s lv ks) deep (m - 1) c a1 hc
  generalize hdm : D (.mk f n hid s lv ks) deep (m - 1) c = dr at *
  obtain ⟨o, m1, c1⟩ := dr
  simp only at hxc d1 d2 hc1 ⊢
  generalize hG4 : put2 bl bb m1 c1 G3 = G4
  have hEG4 : Ext (put2 bl bb m1 c1 H) G4 := by rw [← hG4]; exact hEG.put2
  have g40 : G4.get H.next = some (.cells [aint f, aint n, abl hid, .v (.string s), lx, kx]) := by
    rw [← hG4, put2_get, if_neg (by omega), if_neg (by omega)]; exact g30
  have g41 : G4.get (H.next + 1) = some (.cells z6) := by
    rw [← hG4, put2_get, if_neg (by omega), if_neg (by omega)]; exact g31
  have g4n : G4.next = H.next + 2 := by rw [← hG4]; exact g3n
  obtain ⟨ax, bx, hx6, p1, p2, p3, p4, p5, p6, p7, p8⟩ := hxc.six
  have q0 : ¬ H.next = G4.next := by omega
  have q1 : ¬ H.next + 1 = G4.next := by omega
  have q2 : ¬ G4.next = H.next + 1 := by omega
  have q3 : ¬ G4.next = H.next := by omega
  cases o with
  | some t2 =>
    simp only [Option.isSome_some, Option.getD_some] at hxc hx6 ⊢
    subst hx6
    simp -implicitDefEqProofs only [go_sem, Nat.reduceEqDiff, Nat.reduceAdd, Nat.reduceLeDiff, ↓reduceIte, reduceCtorEq, Int.reduceBEq, Int.reduceBNe, Int.reduceLT, Int.reduceLE, Int.reduceGT, Int.reduceGE, Int.reduceNeg, Int.reduceAdd, Int.reduceSub, Nat.reduceMul, Nat.reduceLT, Int.reduceToNat, q0, q1, q2, q3, g40, g41, p1, p2, p3, p4]
    exact ⟨((hEG4.new _).set (by rw [put2_next]; omega) _).set (by rw [put2_next]; omega) _, keepP hxc⟩
  | none =>
  simp only [Option.isSome_none, Option.getD_none] at hxc hx6 ⊢
  subst hx6
  simp -implicitDefEqProofs only [go_sem, Nat.reduceEqDiff, Nat.reduceAdd, Nat.reduceLeDiff, ↓reduceIte, reduceCtorEq, Int.reduceBEq, Int.reduceBNe, Int.reduceLT, Int.reduceLE, Int.reduceGT, Int.reduceGE, Int.reduceNeg, Int.reduceAdd, Int.reduceSub, Nat.reduceMul, Nat.reduceLT, Int.reduceToNat, q0, q1, q2, q3, g40, g41, p1, p2, p3, p4]
  refine i_callA (fid := 171) (fs := []) (cs := []) ?_ ?_ (bare_ok (.mk f n hid s lv ks) hTB _ hTc _) ?_
  · rfl
  · simp -implicitDefEqProofs only [go_sem, Nat.reduceEqDiff, Nat.reduceAdd, Nat.reduceLeDiff, ↓reduceIte, reduceCtorEq, Int.reduceBEq, Int.reduceBNe, Int.reduceLT, Int.reduceLE, Int.reduceGT, Int.reduceGE, Int.reduceNeg, Int.reduceAdd, Int.reduceSub, Nat.reduceMul, Nat.reduceLT, Int.reduceToNat]
  rintro x H3 ⟨⟨bc, rfl, hbc⟩, rfl⟩
  obtain ⟨ay, byx, lls, bcs, hb6, w2, w3, w4, w5⟩ := hbc.1.six
  have oay : Old 0 ay := hbc.2 ay (by rw [hb6]; simp)
  have hbf : (bareT (.mk f n hid s lv ks)).kids = [] := rfl
  generalize hbt : bareT (.mk f n hid s lv ks) = bt at *
  have s0 : ¬ H.next = G4.next + 1 := by omega
  have s1 : ¬ H.next + 1 = G4.next + 1 := by omega
  have s2 : ¬ G4.next + 1 = H.next := by omega
  have s3 : ¬ G4.next + 1 = H.next + 1 := by omega
  have s4 : ¬ G4.next + 1 = G4.next := by omega
  have s5 : ¬ G4.next = G4.next + 1 := by omega
  have t0 : ¬ H.next = G4.next + 1 + 1 := by omega
  have t1 : ¬ H.next + 1 = G4.next + 1 + 1 := by omega
  have t2 : ¬ G4.next + 1 = G4.next + 1 + 1 := by omega
  have t3 : ¬ G4.next + 1 + 1 = G4.next + 1 := by omega
  have t4 : ¬ G4.next + 1 + 1 = H.next := by omega
  have t5 : ¬ G4.next = G4.next + 1 + 1 := by omega
  have hob : ∀ {G : AHeap} {m' : Int} {c' : List AV}, Ext (put2 bl bb m' c' H) G → H.next ≤ G.next := fun {G m' c'} h => h.1
  subst hb6
  by_cases hn0 : ks.length = 0
  · have hks : ks = [] := List.length_eq_zero_iff.1 hn0
    subst hks
    have hbw : bt.with [] = bt := by
      cases bt
      simp only [Tm.with, Tm.kids] at hbf ⊢
      rw [hbf]
    have z0 : ¬ ((0 : Nat) : Int) > 0 := by omega
    simp only [List.length_nil] at hk1
    simp -implicitDefEqProofs only [go_sem, Nat.reduceEqDiff, Nat.reduceAdd, Nat.reduceLeDiff, ↓reduceIte, reduceCtorEq, Int.reduceBEq, Int.reduceBNe, Int.reduceLT, Int.reduceLE, Int.reduceGT, Int.reduceGE, Int.reduceNeg, Int.reduceAdd, Int.reduceSub, Nat.reduceMul, Nat.reduceLT, Int.reduceToNat, q0, q1, q2, q3, s0, s1, s2, s3, s4, s5, g40, g41, w2.one, w2.cells, w4.one, w4.cells, fun H => hk1.alen H, z0]
    refine swp_range 0 (fun i st => st.tm 4 = .ptr H.next 0 ∧ st.tm 8 = .ptr (H.next + 1) 0 ∧ st.tm 11 = .ptr (G4.next + 1) 0 ∧ st.tm 46 = aint ((0 : Nat) : Int) ∧ st.tm 47 = aint ((0 : Nat) : Int) ∧ Ext (put2 bl bb m1 c1 H) st.heap ∧ st.heap.get (H.next + 1) = some (.cells z6) ∧
      st.heap.get (G4.next + 1) = some (.cells [aint bt.form, aint bt.n, abl bt.hid, .v (.string bt.name), ay, byx])) ?_ ?_ ?_
    · refine ⟨rfl, rfl, rfl, rfl, rfl, (((hEG4.new _).set (by rw [put2_next]; omega) _).new _).set (by rw [put2_next]; omega) _, ?_, ?_⟩
      all_goals simp -implicitDefEqProofs only [go_sem, Nat.reduceEqDiff, Nat.reduceAdd, Nat.reduceLeDiff, ↓reduceIte, reduceCtorEq, Int.reduceBEq, Int.reduceBNe, Int.reduceLT, Int.reduceLE, Int.reduceGT, Int.reduceGE, Int.reduceNeg, Int.reduceAdd, Int.reduceSub, Nat.reduceMul, Nat.reduceLT, Int.reduceToNat, q1, s1, s4, s5, g41]
    · intro i st hi; omega
    · rintro ⟨tm, H5⟩ ⟨u4, u8, u11, u46, u47, hE, v1, v2⟩
      simp only at u4 u8 u11 u46 u47 hE v1 v2
      simp -implicitDefEqProofs only [go_sem, Nat.reduceEqDiff, Nat.reduceAdd, Nat.reduceLeDiff, ↓reduceIte, reduceCtorEq, Int.reduceBEq, Int.reduceBNe, Int.reduceLT, Int.reduceLE, Int.reduceGT, Int.reduceGE, Int.reduceNeg, Int.reduceAdd, Int.reduceSub, Nat.reduceMul, Nat.reduceLT, Int.reduceToNat, u4, u8, u11, u46, u47, Int.lt_irrefl, v1, v2, w2.one, w2.cells, w4.one, w4.cells]
      simp only [mapK]
      refine ⟨hE.set (by rw [put2_next]; omega) _, ?_⟩
      rw [hbw]
      exact keepP hbc
  have hz : ((ks.length : Nat) : Int) > 0 := by omega
  simp -implicitDefEqProofs only [go_sem, Nat.reduceEqDiff, Nat.reduceAdd, Nat.reduceLeDiff, ↓reduceIte, reduceCtorEq, Int.reduceBEq, Int.reduceBNe, Int.reduceLT, Int.reduceLE, Int.reduceGT, Int.reduceGE, Int.reduceNeg, Int.reduceAdd, Int.reduceSub, Nat.reduceMul, Nat.reduceLT, Int.reduceToNat, q0, q1, q2, q3, s0, s1, s2, s3, s4, s5, t0, t1, t2, t3, t4, g40, g41, w2.one, w2.cells, w4.one, w4.cells, fun H => hk1.alen H, hz, fun G => make_kids ks.length b3 G]
  have hkxo : Old 0 kx := hT'.2 kx (by simp)
  have hcso : ∀ y ∈ cs, Old 0 y := by
    rcases hk1 with ⟨h, _⟩ | ⟨lo, ex, rfl, _⟩
    · exact absurd h hn0
    · cases hkxo with | ro _ _ _ _ h => exact h
  have hrep : ∀ y ∈ (List.replicate ks.length z6).flatten, Old 0 y := by
    intro y hy
    simp only [List.mem_flatten, List.mem_replicate] at hy
    obtain ⟨q, ⟨_, rfl⟩, hy⟩ := hy
    exact tmp_zero.2 y hy
  have hreplen : (List.replicate ks.length z6).flatten.length = ks.length * 6 := by simp
  refine swp_range ks.length (fun i st => st.tm 1 = aint deep ∧ st.tm 2 = .ptr bl 0 ∧ st.tm 3 = .fn (.func fid) fs cap ∧ st.tm 4 = .ptr H.next 0 ∧ st.tm 8 = .ptr (H.next + 1) 0 ∧ st.tm 11 = .ptr (G4.next + 1) 0 ∧ st.tm 45 = kx ∧ st.tm 46 = aint ks.length ∧ st.tm 47 = aint i ∧ G4.next + 3 ≤ st.heap.next ∧
    st.heap.get H.next = some (.cells [aint f, aint n, abl hid, .v (.string s), lx, kx]) ∧ st.heap.get (H.next + 1) = some (.cells z6) ∧
    st.heap.get (G4.next + 1) = some (.cells [aint bt.form, aint bt.n, abl bt.hid, .v (.string bt.name), ay, .slc (G4.next + 2) 0 6 ks.length ks.length true]) ∧
    ∃ (rs : List Tm) (mi : Int) (ci l : List AV), Ext (put2 bl bb mi ci H) st.heap ∧ st.heap.get (G4.next + 2) = some (.cells l) ∧ l.length = ks.length * 6 ∧ rs.length = i ∧ (∀ (j : Nat) (k : Tm), rs[j]? = some k → TmR k ((l.drop (j * 6)).take 6)) ∧ (∀ y ∈ l, Old 0 y) ∧ Inv ci ∧
      -2305843009213693952 ≤ mi - szK (ks.drop i) * (W + 1) ∧ mi ≤ 2305843009213693952 ∧ mapK D f 0 deep m1 c1 ks = (rs ++ (mapK D f i deep mi ci (ks.drop i)).1, (mapK D f i deep mi ci (ks.drop i)).2)) ?_ ?_ ?_
  · refine ⟨rfl, rfl, rfl, rfl, rfl, rfl, rfl, rfl, rfl, ?_, ?_, ?_, ?_, [], m1, c1, _, (((((hEG4.new _).set (by rw [put2_next]; omega) _).new _).set (by rw [put2_next]; omega) _).new _).set (by rw [put2_next]; omega) _, ?_, hreplen, rfl, (fun j k h => by simp at h), hrep, hc1, ?_, by omega, by simp⟩
    · show G4.next + 3 ≤ G4.next + 1 + 1 + 1
      omega
    · simp -implicitDefEqProofs only [go_sem, Nat.reduceEqDiff, Nat.reduceAdd, Nat.reduceLeDiff, ↓reduceIte, reduceCtorEq, Int.reduceBEq, Int.reduceBNe, Int.reduceLT, Int.reduceLE, Int.reduceGT, Int.reduceGE, Int.reduceNeg, Int.reduceAdd, Int.reduceSub, Nat.reduceMul, Nat.reduceLT, Int.reduceToNat, q0, s0, t0, g40]
    · simp -implicitDefEqProofs only [go_sem, Nat.reduceEqDiff, Nat.reduceAdd, Nat.reduceLeDiff, ↓reduceIte, reduceCtorEq, Int.reduceBEq, Int.reduceBNe, Int.reduceLT, Int.reduceLE, Int.reduceGT, Int.reduceGE, Int.reduceNeg, Int.reduceAdd, Int.reduceSub, Nat.reduceMul, Nat.reduceLT, Int.reduceToNat, q1, s1, t1, g41]
    · simp -implicitDefEqProofs only [go_sem, Nat.reduceEqDiff, Nat.reduceAdd, Nat.reduceLeDiff, ↓reduceIte, reduceCtorEq, Int.reduceBEq, Int.reduceBNe, Int.reduceLT, Int.reduceLE, Int.reduceGT, Int.reduceGE, Int.reduceNeg, Int.reduceAdd, Int.reduceSub, Nat.reduceMul, Nat.reduceLT, Int.reduceToNat, s4, t2]
    · show AHeap.get _ (G4.next + 1 + 1) = _
      simp -implicitDefEqProofs only [go_sem, Nat.reduceEqDiff, Nat.reduceAdd, Nat.reduceLeDiff, ↓reduceIte, reduceCtorEq, Int.reduceBEq, Int.reduceBNe, Int.reduceLT, Int.reduceLE, Int.reduceGT, Int.reduceGE, Int.reduceNeg, Int.reduceAdd, Int.reduceSub, Nat.reduceMul, Nat.reduceLT, Int.reduceToNat, t3]
    · simp only [List.drop_zero]; omega
  · rintro i ⟨tm, H2⟩ hi ⟨u1, u2, u3, u4, u8, u11, u45, u46, u47, hnx, v0, v1, v2, rs, mi, ci, l, hE, v3, hll, hrl, hrs, hold, hci, hmb, hmt, hmk⟩
    simp only at u1 u2 u3 u4 u8 u11 u45 u46 u47 hnx v0 v1 v2 hE v3
    have hltI : (i : Int) < (ks.length : Int) := by omega
    have hix := hk1.aix 6 hi
    obtain ⟨kc, hkc, hle, hld⟩ := hk2.load (List.getElem?_eq_getElem hi)
    have hkm := List.getElem_mem hi
    have hdrop : ks.drop i = ks[i] :: ks.drop (i + 1) := List.drop_eq_getElem_cons hi
    have hkP : TmP ks[i] kc := ⟨hkc, fun y hy => hcso y (by rw [← hld] at hy; exact List.mem_of_mem_drop (List.mem_of_mem_take hy))⟩
    obtain ⟨ax1, bx1, hk6, k1, k2, k3, k4, k5, k6, k7, k8⟩ := hkP.six
    have w9 : IntKind.i64.wrap ((i : Int) + 1) = (i : Int) + 1 := i64_ok _ (by omega)
    have hub := underF_bound f i deep
    have hhk := htK_mem hkm
    have c0 : ¬ H.next = H2.next := by omega
    have c1' : ¬ G4.next + 1 = H2.next := by omega
    have c2 : ¬ H2.next = H.next := by omega
    have c3 : ¬ G4.next + 2 = H2.next := by omega
    have c4 : ¬ H.next + 1 = H2.next := by omega
    rw [hdrop] at hmb hmk
    simp only [szK, mapK] at hmb hmk
    have hmb' : -2305843009213693952 ≤ mi - (szT ks[i] : Int) * (W + 1) - szK (ks.drop (i + 1)) * (W + 1) := by
      push_cast at hmb
      rw [Int.add_mul] at hmb
      omega
    have hposk : (0 : Int) ≤ szK (ks.drop (i + 1)) * (W + 1) := Int.mul_nonneg (by omega) (by omega)
    obtain ⟨mb1, mb2⟩ := map_bound (W := W) hD ks[i] (underF f i deep) mi ci
    have hinv' := map_inv hI ks[i] (a5.mem _ hkm) (underF f i deep) mi ci hci
    subst hk6
    simp -implicitDefEqProofs only [go_sem, Nat.reduceEqDiff, Nat.reduceAdd, Nat.reduceLeDiff, ↓reduceIte, reduceCtorEq, Int.reduceBEq, Int.reduceBNe, Int.reduceLT, Int.reduceLE, Int.reduceGT, Int.reduceGE, Int.reduceNeg, Int.reduceAdd, Int.reduceSub, Nat.reduceMul, Nat.reduceLT, Int.reduceToNat, u1, u2, u3, u4, u8, u11, u45, u46, u47, v0, v2, hltI, hix, hle, hld, k1, k2, k3, k4, c0, c1']
    refine i_callA (fs := []) (cs := []) (fid := 172) ?_ ?_ (under_ok f i deep (by omega) _) ?_
    · rfl
    · simp -implicitDefEqProofs only [go_sem, Nat.reduceEqDiff, Nat.reduceAdd, Nat.reduceLeDiff, ↓reduceIte, reduceCtorEq, Int.reduceBEq, Int.reduceBNe, Int.reduceLT, Int.reduceLE, Int.reduceGT, Int.reduceGE, Int.reduceNeg, Int.reduceAdd, Int.reduceSub, Nat.reduceMul, Nat.reduceLT, Int.reduceToNat]
    rintro x H3 ⟨rfl, rfl⟩
    simp -implicitDefEqProofs only [go_sem, Nat.reduceEqDiff, Nat.reduceAdd, Nat.reduceLeDiff, ↓reduceIte, reduceCtorEq, Int.reduceBEq, Int.reduceBNe, Int.reduceLT, Int.reduceLE, Int.reduceGT, Int.reduceGE, Int.reduceNeg, Int.reduceAdd, Int.reduceSub, Nat.reduceMul, Nat.reduceLT, Int.reduceToNat, u1, u2, u3, u4, u8, u11, u45, u46, u47, v0, v2, c0, c1']
    generalize hG5 : ((H2.new (.cells [aint 0, aint 0, abl false, nostr, nils, nils])).set H2.next (.cells [aint ks[i].form, aint ks[i].n, abl ks[i].hid, .v (.string ks[i].name), ax1, bx1])) = G5
    have hE5 : Ext (put2 bl bb mi ci H) G5 := by rw [← hG5]; exact (hE.new _).set (by rw [put2_next]; omega) _
    have g5n : G5.next = H2.next + 1 := by rw [← hG5]; rfl
    have x0 : G5.get H.next = some (.cells [aint f, aint n, abl hid, .v (.string s), lx, kx]) := by rw [← hG5]; simp -implicitDefEqProofs only [go_sem, Nat.reduceEqDiff, Nat.reduceAdd, Nat.reduceLeDiff, ↓reduceIte, reduceCtorEq, Int.reduceBEq, Int.reduceBNe, Int.reduceLT, Int.reduceLE, Int.reduceGT, Int.reduceGE, Int.reduceNeg, Int.reduceAdd, Int.reduceSub, Nat.reduceMul, Nat.reduceLT, Int.reduceToNat, c0]; exact v0
    have x1 : G5.get (H.next + 1) = some (.cells z6) := by rw [← hG5]; simp -implicitDefEqProofs only [go_sem, Nat.reduceEqDiff, Nat.reduceAdd, Nat.reduceLeDiff, ↓reduceIte, reduceCtorEq, Int.reduceBEq, Int.reduceBNe, Int.reduceLT, Int.reduceLE, Int.reduceGT, Int.reduceGE, Int.reduceNeg, Int.reduceAdd, Int.reduceSub, Nat.reduceMul, Nat.reduceLT, Int.reduceToNat, c4]; exact v1
    have x2 : G5.get (G4.next + 1) = some (.cells [aint bt.form, aint bt.n, abl bt.hid, .v (.string bt.name), ay, .slc (G4.next + 2) 0 6 ks.length ks.length true]) := by rw [← hG5]; simp -implicitDefEqProofs only [go_sem, Nat.reduceEqDiff, Nat.reduceAdd, Nat.reduceLeDiff, ↓reduceIte, reduceCtorEq, Int.reduceBEq, Int.reduceBNe, Int.reduceLT, Int.reduceLE, Int.reduceGT, Int.reduceGE, Int.reduceNeg, Int.reduceAdd, Int.reduceSub, Nat.reduceMul, Nat.reduceLT, Int.reduceToNat, c1']; exact v2
    have x3 : G5.get (G4.next + 2) = some (.cells l) := by rw [← hG5]; simp -implicitDefEqProofs only [go_sem, Nat.reduceEqDiff, Nat.reduceAdd, Nat.reduceLeDiff, ↓reduceIte, reduceCtorEq, Int.reduceBEq, Int.reduceBNe, Int.reduceLT, Int.reduceLE, Int.reduceGT, Int.reduceGE, Int.reduceNeg, Int.reduceAdd, Int.reduceSub, Nat.reduceMul, Nat.reduceLT, Int.reduceToNat, c3]; exact v3
    refine i_callA (fs := []) (cs := []) (fid := 123) ?_ ?_ (ih ks[i] hkm (a5.mem _ hkm) _ hkP (underF f i deep) mi ci (by omega) (by omega) (by omega) hmt hci G5 (hE5.l2 hne hl) (hE5.b2 hb) (by omega) (by omega) (hX _ _ _ _ hXH hE5)) ?_
    · rfl
    · simp -implicitDefEqProofs only [go_sem, Nat.reduceEqDiff, Nat.reduceAdd, Nat.reduceLeDiff, ↓reduceIte, reduceCtorEq, Int.reduceBEq, Int.reduceBNe, Int.reduceLT, Int.reduceLE, Int.reduceGT, Int.reduceGE, Int.reduceNeg, Int.reduceAdd, Int.reduceSub, Nat.reduceMul, Nat.reduceLT, Int.reduceToNat, u2, u3]
    rintro x H6 ⟨⟨xc, rfl, hxc⟩, rfl⟩
    generalize hm2 : (mapT D (underF f i deep) mi ci ks[i]).2.1 = m2 at *
    generalize hc2 : (mapT D (underF f i deep) mi ci ks[i]).2.2 = cc2 at *
    generalize hG6 : put2 bl bb m2 cc2 G5 = G6
    have hE6 : Ext (put2 bl bb m2 cc2 H) G6 := by rw [← hG6]; exact hE5.put2
    have g6n : G6.next = H2.next + 1 := by rw [← hG6]; exact g5n
    have y0 : G6.get H.next = some (.cells [aint f, aint n, abl hid, .v (.string s), lx, kx]) := by rw [← hG6, put2_get, if_neg (by omega), if_neg (by omega)]; exact x0
    have y1 : G6.get (H.next + 1) = some (.cells z6) := by rw [← hG6, put2_get, if_neg (by omega), if_neg (by omega)]; exact x1
    have y2 : G6.get (G4.next + 1) = some (.cells [aint bt.form, aint bt.n, abl bt.hid, .v (.string bt.name), ay, .slc (G4.next + 2) 0 6 ks.length ks.length true]) := by rw [← hG6, put2_get, if_neg (by omega), if_neg (by omega)]; exact x2
    have y3 : G6.get (G4.next + 2) = some (.cells l) := by rw [← hG6, put2_get, if_neg (by omega), if_neg (by omega)]; exact x3
    obtain ⟨_, _, _, _, _, _, _, _, _, hx7, hx8⟩ := hxc.six
    have hixs : aix 6 (i : Int) (.slc (G4.next + 2) 0 6 ks.length ks.length true) = some (.ptr (G4.next + 2) (i * 6)) := by
      simp only [aix]
      rw [if_pos (by omega)]
      simp
    have hle6 : i * 6 + 6 ≤ l.length := by omega
    obtain ⟨st1, st2⟩ := lent_step hll hi hx7 hle6
    have d0 : ¬ H.next = G4.next + 2 := by omega
    have d1 : ¬ H.next + 1 = G4.next + 2 := by omega
    have d2 : ¬ G4.next + 1 = G4.next + 2 := by omega
    simp -implicitDefEqProofs only [go_sem, Nat.reduceEqDiff, Nat.reduceAdd, Nat.reduceLeDiff, ↓reduceIte, reduceCtorEq, Int.reduceBEq, Int.reduceBNe, Int.reduceLT, Int.reduceLE, Int.reduceGT, Int.reduceGE, Int.reduceNeg, Int.reduceAdd, Int.reduceSub, Nat.reduceMul, Nat.reduceLT, Int.reduceToNat, u11, u47, y2, y3, hixs, hle6, hx7, hx8, w9]
    refine ⟨u1, u2, u3, u4, u8, u45, u46, by simp, by omega, ?_, ?_, ?_, rs ++ [(mapT D (underF f i deep) mi ci ks[i]).1], m2, cc2, _, hE6.set (by rw [put2_next]; omega) _, rfl, st1, by simp [hrl], fun j k hj => ?_, fun y hy => ?_, hinv', by omega, by omega, ?_⟩
    · rw [if_neg (by omega)]; exact y0
    · rw [if_neg (by omega)]; exact y1
    · rw [if_neg (by omega)]
    · rcases Nat.lt_or_ge j rs.length with h | h
      · rw [List.getElem?_append_left h] at hj
        rw [st2 j (by omega), if_neg (by omega)]
        exact hrs j k hj
      · rw [List.getElem?_append_right h] at hj
        have : j = i := by
          have := (List.getElem?_eq_some_iff.1 hj).1
          simp at this
          omega
        subst this
        rw [hrl, Nat.sub_self] at hj
        simp at hj
        rw [st2 j hi, if_pos rfl, ← hj]
        exact hxc.1
    · rw [setL_eq _ _ _ (by omega)] at hy
      simp only [List.mem_append] at hy
      rcases hy with (hy | hy) | hy
      · exact hold y (List.mem_of_mem_take hy)
      · exact hxc.2 y hy
      · exact hold y (List.mem_of_mem_drop hy)
    · rw [hmk]; simp
  · rintro ⟨tm, H2⟩ ⟨u1, u2, u3, u4, u8, u11, u45, u46, u47, hnx, v0, v1, v2, rs, mi, ci, l, hE, v3, hll, hrl, hrs, hold, hci, hmb, hmt, hmk⟩
    simp only at u1 u2 u3 u4 u8 u11 u45 u46 u47 hnx v0 v1 v2 hE v3
    rw [List.drop_length, mapK] at hmk
    simp only [List.append_nil] at hmk
    simp -implicitDefEqProofs only [go_sem, Nat.reduceEqDiff, Nat.reduceAdd, Nat.reduceLeDiff, ↓reduceIte, reduceCtorEq, Int.reduceBEq, Int.reduceBNe, Int.reduceLT, Int.reduceLE, Int.reduceGT, Int.reduceGE, Int.reduceNeg, Int.reduceAdd, Int.reduceSub, Nat.reduceMul, Nat.reduceLT, Int.reduceToNat, u4, u8, u11, u46, u47, Int.lt_irrefl, v1, v2, w2.one, w2.cells]
    rw [hmk]
    have d1 : ¬ G4.next + 2 = H.next + 1 := by omega
    refine ⟨hE.set (by rw [put2_next]; omega) _, _, frz_kids (.v _) (.v _) (.v _) (.v _) oay (l := l) (by rw [set_get, if_neg d1]; exact v3) (by omega) hold, _, rfl, ?_, fun y hy => ?_⟩
    · obtain ⟨bf, bn, bh, bs, blv, bks⟩ := bt
      simp only [Tm.with, TmR, Tm.form, Tm.n, Tm.hid, Tm.name, Tm.lv] at *
      exact ⟨ay, _, lls, l, rfl, w2, w3, .inr ⟨ks.length, true, by rw [hrl], by omega⟩, ksR_of rs l (by rw [hrl]; exact hll) hrs⟩
    · simp at hy
      rcases hy with rfl | rfl | rfl | rfl | rfl | rfl
      · exact .v _
      · exact .v _
      · exact .v _
      · exact .v _
      · exact oay
      · exact .ro _ _ _ _ hold

theorem map_ok {fid : FuncId} {fs cap : List AV} {bl bb : Nat} (hne : bl ≠ bb) {D : MD} {Pt : Tm → Prop} {Inv : List AV → Prop} {W : Nat}
    (hP : ∀ t, Pt t → TmB t) (hD : ∀ t deep m c, m - W ≤ (D t deep m c).2.1 ∧ (D t deep m c).2.1 ≤ m) (hI : ∀ t deep m c, Pt t → Inv c → Inv (D t deep m c).2.2) (hInv : ∀ c, Inv c → ∀ x ∈ c, Old 0 x)
    (hspec : ∀ (t : Tm) (cells : List AV) (deep m : Int) (c : List AV) (G : AHeap), Pt t → TmP t cells → 0 ≤ deep → deep ≤ 4611686018427387904 → 0 ≤ m → m ≤ 2305843009213693952 → -2305843009213693952 ≤ m - W → Inv c →
      G.get bl = some (.cells [aint m]) → G.get bb = some (.cells c) → bl < G.next → bb < G.next →
      SCall Try.prog fid (fs ++ ([.agg cells, aint deep] ++ cap)) G fun x H' => (∃ xc, x = .tup [.agg xc, abl (D t deep m c).1.isSome] ∧ TmP ((D t deep m c).1.getD zeroTm) xc) ∧ H' = put2 bl bb (D t deep m c).2.1 (D t deep m c).2.2 G) :
    ∀ t, Tm.All Pt t → ∀ (cells : List AV), TmP t cells → ∀ (deep m : Int) (c : List AV), 0 ≤ deep → deep + htT t ≤ 4611686018427387904 → -2305843009213693952 ≤ m - szT t * (W + 1) → m ≤ 2305843009213693952 → Inv c →
      ∀ (H : AHeap), H.get bl = some (.cells [aint m]) → H.get bb = some (.cells c) → bl < H.next → bb < H.next →
      SCall Try.prog 123 [.agg cells, aint deep, .ptr bl 0, .fn (.func fid) fs cap] H fun x H' => (∃ xc, x = .agg xc ∧ TmP (mapT D deep m c t).1 xc) ∧ H' = put2 bl bb (mapT D deep m c t).2.1 (mapT D deep m c t).2.2 H := fun t ha cells hT deep m c h1 h2 h3 h4 h5 H h6 h7 h8 h9 =>
  map_okX hne (X := fun _ => True) (fun _ _ _ _ _ _ => trivial) hP hD hI hInv (fun t cells deep m c G a1 a2 a3 a4 a5 a6 a7 a8 a9 b1 b2 b3 _ => hspec t cells deep m c G a1 a2 a3 a4 a5 a6 a7 a8 a9 b1 b2 b3) t ha cells hT deep m c h1 h2 h3 h4 h5 H h6 h7 h8 h9 trivial
end Go.Proofs.Ytooaiddfokbffaa.E

/- Terms copied and lifted, as the code does it. Conditions: none. -/
set_option linter.unusedVariables false
set_option linter.unusedSimpArgs false
namespace Go.Proofs.Ytooaiddfokbffaa.E
open Go Go.Proofs
attribute [local go_sem] s_seq s_ops s_draw s_block s_skip s_ret s_exit i_nil i_cons i_run i_runG s_condQ c_true c_false aop ev_t ev_c updO_at updO_no upd_at t_normal t_ret t_exit b_normal b_ret b_exit a_some ac_v ac_agg ac_ptr ac_slc ac_ro ac_rop ac_fn new_next set_next argTm_zero argTm_succ argTm_nil ab_bool ab_uv beq_self_eq_true Option.some_beq_some Bool.not_not beq_iff_eq decide_true decide_false Bool.not_true Bool.not_false afld aload astore apack alen_str alen_ro alen_slc alen_nil new_get set_get ite_true ite_false Option.map_some Option.bind_some ibin isShift Nat.add_zero Nat.zero_add List.length_cons List.length_nil List.drop_zero List.drop_succ_cons List.take_succ_cons List.take_zero if_true if_false setL List.set_cons_zero List.set_cons_succ List.all_cons List.all_nil one_int one_bool one_str one_nil one_ptr one_slc one_ro one_rop one_fn Bool.and_self Bool.and_true true_and and_true and_self Bool.false_eq_true post_ret post_normal resAll resOne packR Option.some.injEq exists_eq_left' List.map_cons List.map_nil List.nil_append List.append_nil List.cons_append d_nil d_cons k_nil k_cons g_op g_same g_new avBlock forall_eq' List.getElem?_cons_succ List.getElem?_cons_zero List.getElem?_nil okind gOk bne false_imp_iff forall_const imp_self implies_true true_imp_iff i_callG

def varTm (n : Int) : Tm := .mk 1 n false zeroS [] []
mutual
def cleanT : Tm → Tm
  | .mk f n h s lv ks => (bareT (.mk f n h s lv ks)).with (cleanK ks)
def cleanK : List Tm → List Tm
  | [] => []
  | k :: r => cleanT k :: cleanK r
end
mutual
def liftT (from_ by_ deep : Int) : Tm → Tm
  | .mk f n h s lv ks => if f = 1 ∧ n ≥ from_ + deep then varTm (n + by_) else (bareT (.mk f n h s lv ks)).with (liftK from_ by_ f 0 deep ks)
def liftK (from_ by_ f : Int) (i : Nat) (deep : Int) : List Tm → List Tm
  | [] => []
  | k :: r => liftT from_ by_ (underF f i deep) k :: liftK from_ by_ f (i + 1) deep r
end

def copyD : MD := fun _ _ m c => (none, m, c)
def liftD (from_ by_ : Int) : MD := fun t deep m c => (if t.form = 1 ∧ t.n ≥ from_ + deep then some (varTm (t.n + by_)) else none, m, c)

theorem map_copy : ∀ t, ∀ deep m c, (szT t : Int) ≤ m → mapT copyD deep m c t = (cleanT t, m - szT t, c) := by
  refine Tm.rule fun f n hd s lv ks ih deep m c hm => ?_
  simp only [szT] at hm
  rw [mapT, if_neg (by omega), cleanT]
  simp only [copyD]
  have key : ∀ ks', (∀ k ∈ ks', k ∈ ks) → ∀ (i : Nat) m c, (szK ks' : Int) ≤ m → mapK copyD f i deep m c ks' = (cleanK ks', m - szK ks', c) := by
    intro ks'
    induction ks' with
    | nil => intro _ i m c _; simp [mapK, cleanK, szK]
    | cons k r ih' =>
      intro hmem i m c hm
      simp only [szK] at hm
      simp only [mapK, cleanK, szK]
      rw [ih k (hmem k (List.mem_cons_self ..)) _ m c (by omega)]
      simp only
      rw [ih' (fun k hk => hmem k (List.mem_cons_of_mem _ hk)) (i + 1) _ c (by omega)]
      simp only [Prod.mk.injEq, true_and, and_true]
      omega
  rw [key ks (fun _ h => h) 0 (m - 1) c (by omega)]
  simp only [szT, Prod.mk.injEq, true_and, and_true]
  omega

/-! ### Bounds of what is made -/
theorem tmb_bare {f n : Int} {h : Bool} {s : ByteArray} {lv : List Lv} {ks ks' : List Tm} (hb : TmB (.mk f n h s lv ks)) (hl : ks'.length = ks.length) : TmB ((bareT (.mk f n h s lv ks)).with ks') := by
  simp only [TmB, bareT, Tm.with, Tm.form, Tm.n, Tm.name, Tm.lv, Tm.kids] at *
  obtain ⟨h1, h2, h3, h4, h5, h6⟩ := hb
  refine ⟨h1, ?_, ?_, ?_, by rw [hl]; exact h5, ?_⟩
  · split
    · exact h2
    · exact ⟨by omega, by omega⟩
  · split
    · exact h3
    · exact Nat.zero_le _
  · split
    · exact h4
    · simp
  · split
    · exact h6
    · intro l hl; cases hl
theorem cleanK_len : ∀ ks, (cleanK ks).length = ks.length
  | [] => rfl
  | k :: r => by simp [cleanK, cleanK_len r]
theorem with_all {p : Tm → Prop} {t : Tm} {ks : List Tm} (h1 : p (t.with ks)) (h2 : Tm.AllL p ks) : Tm.All p (t.with ks) := by
  cases t; exact ⟨h1, h2⟩

theorem tmb_clean : ∀ t, Tm.All TmB t → Tm.All TmB (cleanT t) := by
  refine Tm.rule fun f n hd s lv ks ih ha => ?_
  simp only [Tm.All] at ha
  rw [cleanT]
  refine with_all (tmb_bare ha.1 (cleanK_len ks)) ?_
  have key : ∀ ks', (∀ k ∈ ks', k ∈ ks) → Tm.AllL TmB (cleanK ks') := by
    intro ks'
    induction ks' with
    | nil => intro _; trivial
    | cons k r ih' => intro hm; exact ⟨ih k (hm k (List.mem_cons_self ..)) (ha.2.mem k (hm k (List.mem_cons_self ..))), ih' fun k hk => hm k (List.mem_cons_of_mem _ hk)⟩
  exact key ks fun _ h => h

/-- A variable's index. -/
def Vn (t : Tm) : Prop := t.form = 1 → 0 ≤ t.n ∧ t.n ≤ 1073741824
mutual
theorem cleanT_sz : ∀ t, szT (cleanT t) = szT t
  | .mk f n h s lv ks => by
    rw [cleanT]
    simp only [bareT, Tm.with, szT, cleanK_sz ks]
theorem cleanK_sz : ∀ ks, szK (cleanK ks) = szK ks
  | [] => rfl
  | k :: r => by simp only [cleanK, szK, cleanT_sz k, cleanK_sz r]
end

/-! ### The code -/
theorem tmp_var (n : Int) : TmP (varTm n) [aint 1, aint n, abl false, nostr, nils, nils] := tmp_bare sll_nil

set_option maxRecDepth 100000 in
theorem none_ok (H : AHeap) : SCall Try.prog 124 [] H fun x H' => x = .ptr H.next 0 ∧ H' = (H.new (.cells [aint 0])).set H.next (.cells [aint 1099511627776]) := by
  refine SCall.intro mixed cf124 ?_
  simp -implicitDefEqProofs only [c124, go_sem, Nat.reduceEqDiff, Nat.reduceAdd, Nat.reduceLeDiff, ↓reduceIte, reduceCtorEq, Int.reduceBEq, Int.reduceBNe, Int.reduceLT, Int.reduceLE, Int.reduceGT, Int.reduceGE, Int.reduceNeg, Int.reduceAdd, Int.reduceSub, Nat.reduceMul, Nat.reduceLT, Int.reduceToNat]

theorem tmp_zero_tup (b : Bool) : ∀ n, Old n (.tup [.agg z6, abl b]) := fun n => .tup _ fun y hy => by
  simp at hy
  rcases hy with rfl | rfl
  · exact .agg _ fun z hz => (tmp_zero.2 z hz).mono (Nat.zero_le _)
  · exact .v _

set_option maxRecDepth 100000 in
theorem copyD_ok (t : Tm) (cells : List AV) (deep : Int) (hT : TmP t cells) (G : AHeap) : SCall Try.prog 125 [.agg cells, aint deep] G fun x H' => x = .tup [.agg z6, abl false] ∧ H' = G := by
  refine SCall.valO (tmp_zero_tup false _) (SCall.intro mixed cf125 ?_)
  obtain ⟨lx, kx, rfl, p1, p2, p3, p4, p5⟩ := hT.six
  have e1 : ¬ G.next = G.next + 1 := by omega
  have e2 : ¬ G.next + 1 = G.next := by omega
  simp -implicitDefEqProofs only [c125, go_sem, Nat.reduceEqDiff, Nat.reduceAdd, Nat.reduceLeDiff, ↓reduceIte, reduceCtorEq, Int.reduceBEq, Int.reduceBNe, Int.reduceLT, Int.reduceLE, Int.reduceGT, Int.reduceGE, Int.reduceNeg, Int.reduceAdd, Int.reduceSub, Nat.reduceMul, Nat.reduceLT, Int.reduceToNat, p1, p2, p3, p4, afill, e1, e2]
  exact (((Ext.refl G).new _).new _).set (by omega) _

theorem tmp_keep {t : Tm} {xc : List AV} {N : Nat} {H' : AHeap} (h : TmP t xc) : FrzN N H' (.agg xc) (.agg xc) := .keep _ (.agg _ fun y hy => (h.2 y hy).mono (Nat.zero_le _))

set_option maxRecDepth 100000 in
theorem copy_ok (t : Tm) (ha : Tm.All TmB t) (hh : htT t ≤ 1000000) (hz : szT t ≤ 1000000) (cells : List AV) (hT : TmP t cells) (H : AHeap) : SCall Try.prog 76 [.agg cells] H fun x H' => (∃ c, x = .agg c ∧ TmP (cleanT t) c) ∧ H' = H := by
  have hT' := hT
  obtain ⟨lx, kx, hc6, p1, p2, p3, p4, p5, p6, p7, p8⟩ := hT.six
  subst hc6
  have main : SCall Try.prog 76 [.agg [aint t.form, aint t.n, abl t.hid, .v (.string t.name), lx, kx]] H fun x H' => (∃ c, x = .agg c ∧ TmP (cleanT t) c) ∧ Ext H H' := by
    refine SCall.intro mixed cf76 ?_
    have e1 : ¬ H.next = H.next + 1 := by omega
    have e2 : ¬ H.next + 1 = H.next := by omega
    have e3 : ¬ H.next = H.next + 1 + 1 := by omega
    have e4 : ¬ H.next + 1 = H.next + 1 + 1 := by omega
    simp -implicitDefEqProofs only [c76, go_sem, Nat.reduceEqDiff, Nat.reduceAdd, Nat.reduceLeDiff, ↓reduceIte, reduceCtorEq, Int.reduceBEq, Int.reduceBNe, Int.reduceLT, Int.reduceLE, Int.reduceGT, Int.reduceGE, Int.reduceNeg, Int.reduceAdd, Int.reduceSub, Nat.reduceMul, Nat.reduceLT, Int.reduceToNat, p1, p2, p3, p4, e1, e2]
    refine i_callA (fs := []) (cs := []) ?_ ?_ (none_ok _) ?_
    · rfl
    · simp -implicitDefEqProofs only [go_sem, Nat.reduceEqDiff, Nat.reduceAdd, Nat.reduceLeDiff, ↓reduceIte, reduceCtorEq, Int.reduceBEq, Int.reduceBNe, Int.reduceLT, Int.reduceLE, Int.reduceGT, Int.reduceGE, Int.reduceNeg, Int.reduceAdd, Int.reduceSub, Nat.reduceMul, Nat.reduceLT, Int.reduceToNat]
    rintro x H3 ⟨rfl, rfl⟩
    simp -implicitDefEqProofs only [go_sem, Nat.reduceEqDiff, Nat.reduceAdd, Nat.reduceLeDiff, ↓reduceIte, reduceCtorEq, Int.reduceBEq, Int.reduceBNe, Int.reduceLT, Int.reduceLE, Int.reduceGT, Int.reduceGE, Int.reduceNeg, Int.reduceAdd, Int.reduceSub, Nat.reduceMul, Nat.reduceLT, Int.reduceToNat, e1, e2, e3, e4]
    have hc := map_copy t 0 1099511627776 [aint t.form, aint t.n, abl t.hid, .v (.string t.name), lx, kx] (by omega)
    have hm := map_ok (fid := 125) (fs := []) (cap := []) (bl := H.next + 1 + 1) (bb := H.next) (by omega) (D := copyD) (Pt := TmB) (Inv := fun c => ∀ x ∈ c, Old 0 x) (W := 0) (fun t h => h) (fun t deep m c => by simp [copyD]) (fun t deep m c _ h => h) (fun c h => h)
      (fun t cells deep m c G _ hT _ _ _ _ _ _ h1 h2 _ _ => (copyD_ok t cells deep hT G).mono fun x H' ⟨hx, hH⟩ => ⟨⟨z6, hx, tmp_zero⟩, by rw [hH]; exact (put2_self h1 h2).symm⟩)
      t ha _ hT' 0 1099511627776 _ (by omega) (by omega) (by omega) (by omega) hT'.2 ((((H.new (.cells [aint t.form, aint t.n, abl t.hid, .v (.string t.name), lx, kx])).new (.cells [aint 0, aint 0, abl false, nostr, nils, nils])).new (.cells [aint 0])).set (H.next + 1 + 1) (.cells [aint 1099511627776]))
      (by simp -implicitDefEqProofs only [go_sem, Nat.reduceEqDiff, Nat.reduceAdd, Nat.reduceLeDiff, ↓reduceIte, reduceCtorEq, Int.reduceBEq, Int.reduceBNe, Int.reduceLT, Int.reduceLE, Int.reduceGT, Int.reduceGE, Int.reduceNeg, Int.reduceAdd, Int.reduceSub, Nat.reduceMul, Nat.reduceLT, Int.reduceToNat]) (by simp -implicitDefEqProofs only [go_sem, Nat.reduceEqDiff, Nat.reduceAdd, Nat.reduceLeDiff, ↓reduceIte, reduceCtorEq, Int.reduceBEq, Int.reduceBNe, Int.reduceLT, Int.reduceLE, Int.reduceGT, Int.reduceGE, Int.reduceNeg, Int.reduceAdd, Int.reduceSub, Nat.reduceMul, Nat.reduceLT, Int.reduceToNat, e1, e3]) (by simp only [set_next, new_next]; omega) (by simp only [set_next, new_next]; omega)
    rw [hc] at hm
    refine i_callA (fs := []) (cs := []) (fid := 123) ?_ ?_ hm ?_
    · rfl
    · simp -implicitDefEqProofs only [go_sem, Nat.reduceEqDiff, Nat.reduceAdd, Nat.reduceLeDiff, ↓reduceIte, reduceCtorEq, Int.reduceBEq, Int.reduceBNe, Int.reduceLT, Int.reduceLE, Int.reduceGT, Int.reduceGE, Int.reduceNeg, Int.reduceAdd, Int.reduceSub, Nat.reduceMul, Nat.reduceLT, Int.reduceToNat]
    rintro x H3 ⟨⟨xc, rfl, hxc⟩, rfl⟩
    obtain ⟨ax, bx, hx6, k1, k2, k3, k4, _⟩ := hxc.six
    subst hx6
    simp -implicitDefEqProofs only [go_sem, Nat.reduceEqDiff, Nat.reduceAdd, Nat.reduceLeDiff, ↓reduceIte, reduceCtorEq, Int.reduceBEq, Int.reduceBNe, Int.reduceLT, Int.reduceLE, Int.reduceGT, Int.reduceGE, Int.reduceNeg, Int.reduceAdd, Int.reduceSub, Nat.reduceMul, Nat.reduceLT, Int.reduceToNat, put2, e1, e2, e3, e4, k1, k2, k3, k4]
    exact ⟨⟨_, rfl, hxc⟩, (((((((Ext.refl H).new _).new _).new _).set (by omega) _).set (by omega) _).set (by omega) _).set (by omega) _⟩
  exact main.frz fun _ _ x H' ⟨⟨xc, hx, hxc⟩, hE⟩ _ => ⟨hE, x, by rw [hx]; exact tmp_keep hxc, xc, hx, hxc⟩
end Go.Proofs.Ytooaiddfokbffaa.E

/- term.Lift, as the code does it. Conditions: none. -/
set_option linter.unusedVariables false
set_option linter.unusedSimpArgs false
namespace Go.Proofs.Ytooaiddfokbffaa.E
open Go Go.Proofs
attribute [local go_sem] s_seq s_ops s_draw s_block s_skip s_ret s_exit i_nil i_cons i_run i_runG s_condQ c_true c_false aop ev_t ev_c updO_at updO_no upd_at t_normal t_ret t_exit b_normal b_ret b_exit a_some ac_v ac_agg ac_ptr ac_slc ac_ro ac_rop ac_fn new_next set_next argTm_zero argTm_succ argTm_nil ab_bool ab_uv beq_self_eq_true Option.some_beq_some Bool.not_not beq_iff_eq decide_true decide_false Bool.not_true Bool.not_false afld aload astore apack alen_str alen_ro alen_slc alen_nil new_get set_get ite_true ite_false Option.map_some Option.bind_some ibin isShift Nat.add_zero Nat.zero_add List.length_cons List.length_nil List.drop_zero List.drop_succ_cons List.take_succ_cons List.take_zero if_true if_false setL List.set_cons_zero List.set_cons_succ List.all_cons List.all_nil one_int one_bool one_str one_nil one_ptr one_slc one_ro one_rop one_fn Bool.and_self Bool.and_true true_and and_true and_self Bool.false_eq_true post_ret post_normal resAll resOne packR Option.some.injEq exists_eq_left' List.map_cons List.map_nil List.nil_append List.append_nil List.cons_append d_nil d_cons k_nil k_cons g_op g_same g_new avBlock forall_eq' List.getElem?_cons_succ List.getElem?_cons_zero List.getElem?_nil okind gOk bne false_imp_iff forall_const imp_self implies_true true_imp_iff i_callG

def rawLiftF (fr by_ : Int) (t : Tm) : Tm := if by_ = 0 ∧ fr = 0 then t else liftT fr by_ 0 t

/-- An answer with an error, of terms. -/
def TmE (t : Tm) (e : Int) (x : AV) : Prop := ∃ c, x = .tup [.agg c, aint e] ∧ TmP t c
theorem TmE.old {t : Tm} {e : Int} {x : AV} (h : TmE t e x) (n : Nat) : Old n x := by
  obtain ⟨c, rfl, hc⟩ := h
  exact .tup _ fun y hy => by
    simp at hy
    rcases hy with rfl | rfl
    · exact .agg _ fun z hz => (hc.2 z hz).mono (Nat.zero_le _)
    · exact .v _

def toldF (left : Int) (t : Tm) : Tm × Int := if left < 0 ∨ ¬ checkF canF t = 0 then (zeroTm, 2) else (t, 0)

def LiftF (fr by_ : Int) (t : Tm) : Tm × Int :=
  if ¬ checkF canF t = 0 then (zeroTm, checkF canF t) else if fr < 0 ∨ by_ < 0 ∨ fr > 1048576 ∨ by_ > 1048576 then (zeroTm, 1) else toldF 0 (cleanT (rawLiftF fr by_ t))

mutual
theorem liftT_sz (fr by_ deep : Int) : ∀ t, szT (liftT fr by_ deep t) ≤ szT t
  | .mk f n h s lv ks => by
    rw [liftT]
    split
    · simp only [varTm, szT, szK]; omega
    · simp only [bareT, Tm.with, szT]
      have := liftK_sz fr by_ f deep ks 0
      omega
theorem liftK_sz (fr by_ f deep : Int) : ∀ (ks : List Tm) (i : Nat), szK (liftK fr by_ f i deep ks) ≤ szK ks
  | [], i => by simp [liftK]
  | k :: r, i => by
    simp only [liftK, szK]
    have h1 := liftT_sz fr by_ (underF f i deep) k
    have h2 := liftK_sz fr by_ f deep r (i + 1)
    omega
end
mutual
theorem liftT_ht (fr by_ deep : Int) : ∀ t, htT (liftT fr by_ deep t) ≤ htT t
  | .mk f n h s lv ks => by
    rw [liftT]
    split
    · simp only [varTm, htT, htK]; omega
    · simp only [bareT, Tm.with, htT]
      have := liftK_ht fr by_ f deep ks 0
      omega
theorem liftK_ht (fr by_ f deep : Int) : ∀ (ks : List Tm) (i : Nat), htK (liftK fr by_ f i deep ks) ≤ htK ks
  | [], i => by simp [liftK]
  | k :: r, i => by
    simp only [liftK, htK]
    have h1 := liftT_ht fr by_ (underF f i deep) k
    have h2 := liftK_ht fr by_ f deep r (i + 1)
    omega
end

end Go.Proofs.Ytooaiddfokbffaa.E

/- Lifts and replacements, as laws of trees. Conditions: none. -/
set_option linter.unusedVariables false
set_option linter.unusedSimpArgs false
namespace Go.Proofs.Ytooaiddfokbffaa.E
open Go Go.Proofs

mutual
def putT (at_ : Int) (s : Tm) (deep : Int) : Tm → Tm
  | .mk f n h sn lv ks => if f = 1 ∧ n ≥ at_ + deep then (if n > at_ + deep then varTm (n - 1) else liftT 0 deep 0 s) else (bareT (.mk f n h sn lv ks)).with (putK at_ s f 0 deep ks)
def putK (at_ : Int) (s : Tm) (f : Int) (i : Nat) (deep : Int) : List Tm → List Tm
  | [] => []
  | k :: r => putT at_ s (underF f i deep) k :: putK at_ s f (i + 1) deep r
end

theorem underF_add' (f i d e : Int) : underF f i (d + e) = d + underF f i e := by
  unfold underF; split <;> omega

theorem lift_node (fr by_ deep : Int) {f n : Int} {h : Bool} {s : ByteArray} {lv : List Lv} {ks : List Tm} (hn : ¬ (f = 1 ∧ n ≥ fr + deep)) : liftT fr by_ deep (.mk f n h s lv ks) = (bareT (.mk f n h s lv ks)).with (liftK fr by_ f 0 deep ks) := by
  rw [liftT, if_neg hn]
theorem lift_var (fr by_ deep : Int) {f n : Int} {h : Bool} {s : ByteArray} {lv : List Lv} {ks : List Tm} (hn : f = 1 ∧ n ≥ fr + deep) : liftT fr by_ deep (.mk f n h s lv ks) = varTm (n + by_) := by
  rw [liftT, if_pos hn]
theorem put_node (at_ : Int) (u : Tm) (deep : Int) {f n : Int} {h : Bool} {s : ByteArray} {lv : List Lv} {ks : List Tm} (hn : ¬ (f = 1 ∧ n ≥ at_ + deep)) : putT at_ u deep (.mk f n h s lv ks) = (bareT (.mk f n h s lv ks)).with (putK at_ u f 0 deep ks) := by
  rw [putT, if_neg hn]
theorem put_gt (at_ : Int) (u : Tm) (deep : Int) {f n : Int} {h : Bool} {s : ByteArray} {lv : List Lv} {ks : List Tm} (hf : f = 1) (hn : n > at_ + deep) : putT at_ u deep (.mk f n h s lv ks) = varTm (n - 1) := by
  rw [putT, if_pos ⟨hf, by omega⟩, if_pos hn]
theorem put_eq (at_ : Int) (u : Tm) (deep : Int) {f n : Int} {h : Bool} {s : ByteArray} {lv : List Lv} {ks : List Tm} (hf : f = 1) (hn : n = at_ + deep) : putT at_ u deep (.mk f n h s lv ks) = liftT 0 deep 0 u := by
  rw [putT, if_pos ⟨hf, by omega⟩, if_neg (by omega)]

/-- A node whose fields are told. -/
theorem bare_mk (f n : Int) (h : Bool) (s : ByteArray) (lv : List Lv) (ks ks' : List Tm) : (bareT (.mk f n h s lv ks)).with ks' = .mk f (if f = 1 ∨ f = 11 then n else 0) (if f = 3 ∨ f = 4 ∨ f = 5 then h else false) (if f = 10 then s else zeroS) (if f = 2 ∨ f = 10 then lv else []) ks' := rfl
theorem bare_bare (f n : Int) (h : Bool) (s : ByteArray) (lv : List Lv) (ks ks' ks'' : List Tm) :
    (bareT (.mk f (if f = 1 ∨ f = 11 then n else 0) (if f = 3 ∨ f = 4 ∨ f = 5 then h else false) (if f = 10 then s else zeroS) (if f = 2 ∨ f = 10 then lv else []) ks')).with ks'' = (bareT (.mk f n h s lv ks)).with ks'' := by
  rw [bare_mk, bare_mk]
  congr 1 <;> split <;> rfl

theorem node_var {f n c : Int} (h : ¬ (f = 1 ∧ n ≥ c)) : ¬ (f = 1 ∧ (if f = 1 ∨ f = 11 then n else 0) ≥ c) := by
  rintro ⟨h1, h2⟩
  rw [if_pos (.inl h1)] at h2
  exact h ⟨h1, h2⟩

theorem clean_bare (f n : Int) (h : Bool) (s : ByteArray) (lv : List Lv) (ks ks' : List Tm) : cleanT ((bareT (.mk f n h s lv ks)).with ks') = (bareT (.mk f n h s lv ks)).with (cleanK ks') := by
  rw [bare_mk, cleanT, bare_bare]

mutual
theorem clean_lift (fr by_ deep : Int) : ∀ t, cleanT (liftT fr by_ deep t) = liftT fr by_ deep t
  | .mk f n h s lv ks => by
    by_cases hn : f = 1 ∧ n ≥ fr + deep
    · rw [lift_var _ _ _ hn]; rfl
    · rw [lift_node _ _ _ hn, clean_bare, clean_liftK]
theorem clean_liftK (fr by_ f deep : Int) : ∀ (ks : List Tm) (i : Nat), cleanK (liftK fr by_ f i deep ks) = liftK fr by_ f i deep ks
  | [], _ => rfl
  | k :: r, i => by simp only [liftK, cleanK, clean_lift fr by_ _ k, clean_liftK fr by_ f deep r (i + 1)]
end

mutual
/-- Lifts, one behind the other. -/
theorem lift_lift (d k : Int) (hd : 0 ≤ d) (hk : 0 ≤ k) (j e : Int) (he1 : j ≤ e) (he2 : e ≤ k + j) : ∀ u, liftT 0 d e (liftT 0 k j u) = liftT 0 (d + k) j u
  | .mk f n h s lv ks => by
    by_cases hn : f = 1 ∧ n ≥ 0 + j
    · rw [lift_var _ _ _ hn, lift_var _ _ _ hn, varTm, lift_var _ _ _ ⟨rfl, by omega⟩]
      congr 1; omega
    · rw [lift_node _ _ _ hn, lift_node _ _ _ hn, bare_mk, lift_node, bare_bare (ks := ks), lift_liftK d k hd hk f j e he1 he2 ks 0]
      exact node_var (by rintro ⟨h1, h2⟩; exact hn ⟨h1, by omega⟩)
theorem lift_liftK (d k : Int) (hd : 0 ≤ d) (hk : 0 ≤ k) (f j e : Int) (he1 : j ≤ e) (he2 : e ≤ k + j) : ∀ (ks : List Tm) (i : Nat), liftK 0 d f i e (liftK 0 k f i j ks) = liftK 0 (d + k) f i j ks
  | [], _ => rfl
  | q :: r, i => by
    simp only [liftK]
    have h1 : underF f i j ≤ underF f i e := by unfold underF; split <;> omega
    have h2 : underF f i e ≤ k + underF f i j := by unfold underF; split <;> omega
    rw [lift_lift d k hd hk _ _ h1 h2 q, lift_liftK d k hd hk f j e he1 he2 r (i + 1)]
end

theorem put_varTm (at_ : Int) (u : Tm) (deep n : Int) (hn : n ≥ at_ + deep) : putT at_ u deep (varTm n) = if n > at_ + deep then varTm (n - 1) else liftT 0 deep 0 u := by
  rw [varTm, putT, if_pos ⟨rfl, hn⟩]
theorem lift_varTm (fr by_ deep n : Int) (hn : n ≥ fr + deep) : liftT fr by_ deep (varTm n) = varTm (n + by_) := lift_var _ _ _ ⟨rfl, hn⟩

mutual
/-- What is lifted is not touched by a replacement at the place where it was lifted. -/
theorem put_lift (x : Tm) (d : Int) (hd : 0 ≤ d) (j : Int) : ∀ t, putT 0 x (d + j) (liftT 0 (d + 1) j t) = liftT 0 d j t
  | .mk f n h sn lv ks => by
    by_cases hn : f = 1 ∧ n ≥ 0 + j
    · rw [lift_var _ _ _ hn, lift_var _ _ _ hn, put_varTm _ _ _ _ (by omega), if_pos (by omega)]
      congr 1; omega
    · rw [lift_node _ _ _ hn, lift_node _ _ _ hn, bare_mk, put_node, bare_bare (ks := ks), put_liftK x d hd j f ks 0]
      exact node_var (by rintro ⟨h1, h2⟩; exact hn ⟨h1, by omega⟩)
theorem put_liftK (x : Tm) (d : Int) (hd : 0 ≤ d) (j f : Int) : ∀ (ks : List Tm) (i : Nat), putK 0 x f i (d + j) (liftK 0 (d + 1) f i j ks) = liftK 0 d f i j ks
  | [], _ => rfl
  | k :: r, i => by
    simp only [liftK, putK]
    rw [underF_add', put_lift x d hd _ k, put_liftK x d hd j f r (i + 1)]
end

mutual
/-- A replacement beneath a lift. -/
theorem put_comm (u : Tm) (d : Int) (hd : 0 ≤ d) (k : Int) (hk : 0 ≤ k) : ∀ s, putT 0 u (d + k) (liftT 0 d k s) = liftT 0 d k (putT 0 u k s)
  | .mk f n h sn lv ks => by
    by_cases hn : f = 1 ∧ n ≥ 0 + k
    · obtain ⟨rfl, hn2⟩ := hn
      rw [lift_var _ _ _ ⟨rfl, hn2⟩, put_varTm _ _ _ _ (by omega)]
      by_cases hg : n > 0 + k
      · rw [if_pos (by omega), put_gt _ _ _ rfl hg, lift_varTm _ _ _ _ (by omega)]
        congr 1; omega
      · rw [if_neg (by omega), put_eq _ _ _ rfl (by omega), lift_lift d k hd hk 0 k hk (by omega)]
    · rw [lift_node _ _ _ hn, put_node _ _ _ hn, bare_mk, bare_mk, put_node, lift_node, bare_bare (ks := ks), bare_bare (ks := ks), put_commK u d hd k hk f ks 0]
      · exact node_var hn
      · exact node_var (by rintro ⟨h1, h2⟩; exact hn ⟨h1, by omega⟩)
theorem put_commK (u : Tm) (d : Int) (hd : 0 ≤ d) (k : Int) (hk : 0 ≤ k) (f : Int) : ∀ (ks : List Tm) (i : Nat), putK 0 u f i (d + k) (liftK 0 d f i k ks) = liftK 0 d f i k (putK 0 u f i k ks)
  | [], _ => rfl
  | q :: r, i => by
    simp only [liftK, putK]
    have h1 : 0 ≤ underF f i k := by unfold underF; split <;> omega
    rw [underF_add', put_comm u d hd _ h1 q, put_commK u d hd k hk f r (i + 1)]
end

mutual
/-- Two replacements, in either order. -/
theorem put_put (s u : Tm) (d : Int) (hd : 0 ≤ d) : ∀ t, putT 0 u d (putT 0 s d t) = putT 0 (putT 0 u 0 s) d (putT 1 (liftT 0 1 0 u) d t)
  | .mk f n h sn lv ks => by
    by_cases hn : f = 1 ∧ n ≥ 0 + d
    · obtain ⟨rfl, hn2⟩ := hn
      by_cases h0 : n = 0 + d
      · rw [put_eq _ _ _ rfl h0]
        have hB := put_comm u d hd 0 (by omega) s
        rw [Int.add_zero] at hB
        rw [hB, put_node 1 _ _ (by omega), bare_mk, put_eq _ _ _ rfl (by rw [if_pos (.inl rfl)]; exact h0)]
      · rw [put_gt _ _ _ rfl (by omega)]
        by_cases h1 : n = 1 + d
        · rw [put_varTm _ _ _ _ (by omega), if_neg (by omega), put_eq 1 _ _ rfl h1, lift_lift d 1 hd (by omega) 0 0 (by omega) (by omega)]
          have hP := put_lift (putT 0 u 0 s) d hd 0 u
          rw [Int.add_zero] at hP
          rw [hP]
        · rw [put_varTm _ _ _ _ (by omega), if_pos (by omega), put_gt 1 _ _ rfl (by omega), put_varTm _ _ _ _ (by omega), if_pos (by omega)]
    · have hn1 : ¬ (f = 1 ∧ n ≥ 1 + d) := by rintro ⟨h1, h2⟩; exact hn ⟨h1, by omega⟩
      rw [put_node _ _ _ hn, put_node _ _ _ hn1, bare_mk, bare_mk, put_node, put_node, bare_bare (ks := ks), bare_bare (ks := ks), put_putK s u d hd f ks 0]
      · exact node_var hn
      · exact node_var hn
theorem put_putK (s u : Tm) (d : Int) (hd : 0 ≤ d) (f : Int) : ∀ (ks : List Tm) (i : Nat), putK 0 u f i d (putK 0 s f i d ks) = putK 0 (putT 0 u 0 s) f i d (putK 1 (liftT 0 1 0 u) f i d ks)
  | [], _ => rfl
  | q :: r, i => by
    simp only [putK]
    have h1 : 0 ≤ underF f i d := by unfold underF; split <;> omega
    rw [put_put s u _ h1 q, put_putK s u d hd f r (i + 1)]
end

/-- A variable has no parts. -/
def Vk (t : Tm) : Prop := t.form = 1 → t.kids = []
mutual
theorem lift_zero (j : Int) : ∀ t, Tm.All Vk t → liftT 0 0 j t = cleanT t
  | .mk f n h s lv ks, ha => by
    simp only [Tm.All, Vk, Tm.form, Tm.kids] at ha
    by_cases hn : f = 1 ∧ n ≥ 0 + j
    · obtain ⟨rfl, hn2⟩ := hn
      obtain ⟨ha, _⟩ := ha
      obtain rfl := ha rfl
      rw [lift_var _ _ _ ⟨rfl, hn2⟩, Int.add_zero, cleanT, bare_mk]; rfl
    · rw [lift_node _ _ _ hn, cleanT, lift_zeroK j f ks 0 ha.2]
theorem lift_zeroK (j f : Int) : ∀ (ks : List Tm) (i : Nat), Tm.AllL Vk ks → liftK 0 0 f i j ks = cleanK ks
  | [], _, _ => rfl
  | k :: r, i, ha => by
    simp only [Tm.AllL] at ha
    simp only [liftK, cleanK]
    rw [lift_zero _ k ha.1, lift_zeroK j f r (i + 1) ha.2]
end

/-- Sizes and heights of what is not too long, nor too high. -/
theorem fit_sz : ∀ t, ∀ c high, (fitT c high t).1 = true → (fitT c high t).2 = c + szT t ∧ high + htT t ≤ 501 ∧ (fitT c high t).2 ≤ 20000 := by
  refine Tm.rule fun f n hd s lv ks ih c high h => ?_
  rw [fitT] at h ⊢
  by_cases hc : c + 1 > 20000 ∨ high > 500
  · rw [if_pos hc] at h; simp at h
  rw [if_neg hc] at h ⊢
  have key : ∀ ks', (∀ k ∈ ks', k ∈ ks) → ∀ c high, c ≤ 20000 → high ≤ 501 → (fitK c high ks').1 = true → (fitK c high ks').2 = c + szK ks' ∧ high + htK ks' ≤ 501 ∧ (fitK c high ks').2 ≤ 20000 := by
    intro ks'
    induction ks' with
    | nil => intro _ c high h1 h2 h; simp only [fitK, szK, htK]; omega
    | cons k r ih' =>
      intro hm c high h1 h2 h
      simp only [fitK] at h ⊢
      cases hk : (fitT c high k).1 with
      | false => rw [hk] at h; simp at h
      | true =>
        rw [hk] at h
        simp only [if_true] at h ⊢
        obtain ⟨a1, a2, a3⟩ := ih k (hm k (List.mem_cons_self ..)) c high hk
        obtain ⟨b1, b2, b3⟩ := ih' (fun k hk => hm k (List.mem_cons_of_mem _ hk)) _ high a3 h2 h
        simp only [szK, htK]
        omega
  obtain ⟨a1, a2, a3⟩ := key ks (fun _ h => h) (c + 1) (high + 1) (by omega) (by omega) h
  simp only [szT, htT]
  omega
theorem check_sz {r : Lv → Bool} {t : Tm} (h : checkF r t = 0) : szT t ≤ 20000 ∧ htT t ≤ 500 := by
  obtain ⟨a1, a2, a3⟩ := fit_sz t 0 1 (check_form h).1
  omega

/-! ### What the code's Map makes of a replacement -/
def putD (at_ : Int) (s : Tm) : MD := fun t deep m c =>
  if ¬ t.form = 1 ∨ t.n < at_ + deep then (none, m, c)
  else if t.n > at_ + deep then (some (varTm (t.n - 1)), m, c)
  else (some (mapT (liftD 0 deep) 0 m c s).1, (mapT (liftD 0 deep) 0 m c s).2.1, c)

def At (G : AHeap) (b : Nat) (o : AObj) : Prop := G.get b = some o ∧ b < G.next
theorem At.ext {G G1 : AHeap} {b : Nat} {o : AObj} (h : At G b o) (hE : Ext G G1) : At G1 b o := ⟨(hE.2 b h.2).trans h.1, Nat.lt_of_lt_of_le h.2 hE.1⟩
theorem At.put (G : AHeap) (o o' : AObj) : At ((G.new o).set G.next o') G.next o' := ⟨by rw [set_get, if_pos rfl], by simp⟩
theorem Ext.put1 (G : AHeap) (o o' : AObj) : Ext G ((G.new o).set G.next o') := ((Ext.refl G).new _).set (by omega) _

end Go.Proofs.Ytooaiddfokbffaa.E

/- Terms in own blocks, that may be written over. Conditions: none. -/
set_option linter.unusedVariables false
set_option linter.unusedSimpArgs false
namespace Go.Proofs.Ytooaiddfokbffaa.E
open Go Go.Proofs

/-- A row of levels in an own block. -/
def LvH (H : AHeap) (lo hi : Nat) (lv : List Lv) (x : AV) : Prop := (lv.length = 0 ∧ x = nils) ∨ ∃ b cs, lo ≤ b ∧ b < hi ∧ x = .slc b 0 2 lv.length lv.length false ∧ H.get b = some (.cells cs) ∧ LvsX lv cs

mutual
/-- A term whose rows lie in own blocks of a range, each part in a range of its own. -/
def OwnT (H : AHeap) : Tm → Nat → Nat → List AV → Prop
  | .mk f n h s lv ks, lo, hi, c => ∃ lx kx m, c = [aint f, aint n, abl h, .v (.string s), lx, kx] ∧ lo ≤ m ∧ m ≤ hi ∧ LvH H lo m lv lx ∧
      ((ks.length = 0 ∧ kx = nils) ∨ ∃ b cs, m ≤ b ∧ b < hi ∧ kx = .slc b 0 6 ks.length ks.length true ∧ H.get b = some (.cells cs) ∧ OwnK H ks (b + 1) hi cs)
def OwnK (H : AHeap) : List Tm → Nat → Nat → List AV → Prop
  | [], lo, hi, cs => cs = [] ∧ lo ≤ hi
  | k :: r, lo, hi, cs => ∃ mid c1 c2, cs = c1 ++ c2 ∧ lo ≤ mid ∧ OwnT H k lo mid c1 ∧ OwnK H r mid hi c2
end

theorem OwnT.le {H : AHeap} {t : Tm} {lo hi : Nat} {c : List AV} (h : OwnT H t lo hi c) : lo ≤ hi := by
  cases t
  simp only [OwnT] at h
  obtain ⟨lx, kx, m, _, h1, h2, _⟩ := h
  omega
theorem OwnK.le : ∀ {H : AHeap} {ks : List Tm} {lo hi : Nat} {c : List AV}, OwnK H ks lo hi c → lo ≤ hi
  | H, [], lo, hi, c, h => by simp only [OwnK] at h; exact h.2
  | H, k :: r, lo, hi, c, h => by
    simp only [OwnK] at h
    obtain ⟨mid, c1, c2, _, h1, _, h2⟩ := h
    have := OwnK.le h2
    omega
theorem OwnT.len {H : AHeap} {t : Tm} {lo hi : Nat} {c : List AV} (h : OwnT H t lo hi c) : c.length = 6 := by
  cases t
  simp only [OwnT] at h
  obtain ⟨lx, kx, m, rfl, _⟩ := h
  rfl
theorem OwnK.len : ∀ {H : AHeap} {ks : List Tm} {lo hi : Nat} {c : List AV}, OwnK H ks lo hi c → c.length = ks.length * 6
  | H, [], lo, hi, c, h => by simp only [OwnK] at h; rw [h.1]; rfl
  | H, k :: r, lo, hi, c, h => by
    simp only [OwnK] at h
    obtain ⟨mid, c1, c2, rfl, h1, h3, h2⟩ := h
    rw [List.length_append, h3.len, OwnK.len h2, List.length_cons]; omega

theorem LvH.frame {H G : AHeap} {lo hi : Nat} {lv : List Lv} {x : AV} (h : LvH H lo hi lv x) (hf : ∀ b, lo ≤ b → b < hi → G.get b = H.get b) : LvH G lo hi lv x := by
  rcases h with h | ⟨b, cs, h1, h2, h3, h4, h5⟩
  · exact .inl h
  · exact .inr ⟨b, cs, h1, h2, h3, by rw [hf b h1 h2]; exact h4, h5⟩
mutual
theorem OwnT.frame {H G : AHeap} : ∀ {t : Tm} {lo hi : Nat} {c : List AV}, OwnT H t lo hi c → (∀ b, lo ≤ b → b < hi → G.get b = H.get b) → OwnT G t lo hi c
  | .mk f n h s lv ks, lo, hi, c, ho, hf => by
    simp only [OwnT] at ho ⊢
    obtain ⟨lx, kx, m, rfl, h1, h2, h3, h4⟩ := ho
    refine ⟨lx, kx, m, rfl, h1, h2, h3.frame fun b q1 q2 => hf b q1 (by omega), ?_⟩
    rcases h4 with h4 | ⟨b, cs, g1, g2, g3, g4, g5⟩
    · exact .inl h4
    · exact .inr ⟨b, cs, g1, g2, g3, by rw [hf b (by omega) g2]; exact g4, OwnK.frame g5 fun b' q1 q2 => hf b' (by omega) q2⟩
theorem OwnK.frame {H G : AHeap} : ∀ {ks : List Tm} {lo hi : Nat} {c : List AV}, OwnK H ks lo hi c → (∀ b, lo ≤ b → b < hi → G.get b = H.get b) → OwnK G ks lo hi c
  | [], lo, hi, c, ho, hf => by simp only [OwnK] at ho ⊢; exact ho
  | k :: r, lo, hi, c, ho, hf => by
    simp only [OwnK] at ho ⊢
    obtain ⟨mid, c1, c2, rfl, h1, h3, h2⟩ := ho
    have := OwnK.le h2
    exact ⟨mid, c1, c2, rfl, h1, OwnT.frame h3 fun b q1 q2 => hf b q1 (by omega), OwnK.frame h2 fun b q1 q2 => hf b (by omega) q2⟩
end

theorem OwnK.snoc : ∀ {H : AHeap} {ks : List Tm} {lo mid hi : Nat} {cs c : List AV} {k : Tm}, OwnK H ks lo mid cs → OwnT H k mid hi c → OwnK H (ks ++ [k]) lo hi (cs ++ c)
  | H, [], lo, mid, hi, cs, c, k, h1, h2 => by
    simp only [OwnK] at h1
    obtain ⟨rfl, hle⟩ := h1
    simp only [List.nil_append, OwnK]
    refine ⟨hi, c, [], by simp, by have := h2.le; omega, ?_, rfl, Nat.le_refl _⟩
    cases k
    simp only [OwnT] at h2 ⊢
    obtain ⟨lx, kx, m, rfl, q1, q2, q3, q4⟩ := h2
    refine ⟨lx, kx, m, rfl, by omega, q2, ?_, q4⟩
    rcases q3 with q3 | ⟨b, cs, g1, g2⟩
    · exact .inl q3
    · exact .inr ⟨b, cs, by omega, g2⟩
  | H, k0 :: r, lo, mid, hi, cs, c, k, h1, h2 => by
    simp only [OwnK] at h1
    obtain ⟨mid', c1, c2, rfl, q1, q2, q3⟩ := h1
    simp only [List.cons_append, OwnK]
    exact ⟨mid', c1, c2 ++ c, by simp, q1, q2, q3.snoc h2⟩

/-! ### Read only, they are terms -/
theorem varsC_v : ∀ (vars : List (Int × Int)) (i : Nat) (y : AV), (varsC vars)[i]? = some y → ∃ v, y = .v v
  | [], i, y, h => by simp [varsC] at h
  | v :: r, 0, y, h => by rw [varsC_cons] at h; simp at h; exact ⟨_, h.symm⟩
  | v :: r, 1, y, h => by rw [varsC_cons] at h; simp at h; exact ⟨_, h.symm⟩
  | v :: r, i + 2, y, h => by rw [varsC_cons] at h; exact varsC_v r i y (by simpa using h)
theorem slv_frz {H : AHeap} {vars : List (Int × Int)} {y : AV} (h : SlV vars y) : ∃ z, Frz H y z ∧ SlR vars.length z (varsC vars) := by
  obtain ⟨⟨cs, h1, h2⟩, _⟩ := h
  rcases h1 with ⟨h0, rfl⟩ | ⟨lo, ex, rfl, hlo⟩
  · exact ⟨_, .v _, .inl ⟨h0, rfl⟩⟩
  · refine ⟨.ro vars.length lo ex (varsC vars), .ro _ _ _ _ _ (by rw [varsC_length]; exact h2.len) fun i x y hx hy => ?_, .inr ⟨lo, ex, rfl, hlo⟩⟩
    have hp := h2.pre
    have hi : i < vars.length * 2 := by
      have := (List.getElem?_eq_some_iff.1 hy).1
      rw [varsC_length] at this; exact this
    have hx2 : (cs.take (vars.length * 2))[i]? = some x := by rw [List.getElem?_take, if_pos hi]; exact hx
    rw [hp, hy] at hx2
    injection hx2 with hx2
    subst hx2
    obtain ⟨v, rfl⟩ := varsC_v vars i y hy
    exact .v _
theorem lvs_frz {H : AHeap} : ∀ {lv : List Lv} {cs : List AV}, LvsX lv cs → ∃ ys, FrzL H cs ys ∧ LvsR lv ys
  | [], cs, h => by simp only [LvsX] at h; subst h; exact ⟨[], FrzL.nil H, trivial⟩
  | l :: r, cs, h => by
    simp only [LvsX] at h
    obtain ⟨y, cs', rfl, h1, h2⟩ := h
    obtain ⟨ys, h3, h4⟩ := lvs_frz (H := H) h2
    obtain ⟨z, h5, h6⟩ := slv_frz (H := H) h1
    exact ⟨aint l.n :: z :: ys, FrzL.cons (.v _) (FrzL.cons h5 h3), ⟨z, varsC l.vars, rfl, h6, varsR_self _⟩, h4⟩
theorem lvh_frz {H : AHeap} {lo hi : Nat} {lv : List Lv} {x : AV} (h : LvH H lo hi lv x) : ∃ z cs, Frz H x z ∧ SlR lv.length z cs ∧ LvsR lv cs := by
  rcases h with ⟨h0, rfl⟩ | ⟨b, cs, _, _, rfl, h4, h5⟩
  · rw [List.length_eq_zero_iff.1 h0]
    exact ⟨_, [], .v _, .inl ⟨rfl, rfl⟩, trivial⟩
  · obtain ⟨ys, h6, h7⟩ := lvs_frz (H := H) h5
    exact ⟨_, ys, Frz.block h4 h6 2 _ _ _, .inr ⟨_, _, rfl, Nat.le_refl _⟩, h7⟩

theorem FrzL.app {H : AHeap} {a b c d : List AV} (h1 : FrzL H a c) (h2 : FrzL H b d) : FrzL H (a ++ b) (c ++ d) := by
  refine ⟨by rw [List.length_append, List.length_append, h1.1, h2.1], fun i x y hx hy => ?_⟩
  rcases Nat.lt_or_ge i a.length with h | h
  · rw [List.getElem?_append_left h] at hx
    rw [List.getElem?_append_left (by rw [h1.1]; exact h)] at hy
    exact h1.2 i x y hx hy
  · rw [List.getElem?_append_right h] at hx
    rw [List.getElem?_append_right (by rw [h1.1]; exact h), h1.1] at hy
    exact h2.2 _ x y hx hy

theorem ksR_cons {k : Tm} {ks : List Tm} {a b : List AV} (h1 : TmR k a) (hl : a.length = 6) (h2 : KsR ks b) : KsR (k :: ks) (a ++ b) := by
  simp only [KsR]
  rw [List.take_append_of_le_length (by omega), List.take_of_length_le (by omega), List.drop_append_of_le_length (by omega), List.drop_of_length_le (by omega), List.nil_append]
  exact ⟨h1, h2⟩

mutual
theorem OwnT.rep {H : AHeap} : ∀ {t : Tm} {lo hi : Nat} {c : List AV}, OwnT H t lo hi c → Rep H c t
  | .mk f n h s lv ks, lo, hi, c, ho => by
    simp only [OwnT] at ho
    obtain ⟨lx, kx, m, rfl, h1, h2, h3, h4⟩ := ho
    obtain ⟨zl, ls, q1, q2, q3⟩ := lvh_frz h3
    have key : ∃ zk cs, Frz H kx zk ∧ SlR ks.length zk cs ∧ KsR ks cs := by
      rcases h4 with ⟨h0, rfl⟩ | ⟨b, cs, g1, g2, rfl, g4, g5⟩
      · rw [List.length_eq_zero_iff.1 h0]
        exact ⟨_, [], .v _, .inl ⟨rfl, rfl⟩, trivial⟩
      · obtain ⟨ys, r1, r2⟩ := OwnK.rep g5
        exact ⟨_, ys, Frz.block g4 r1 6 _ _ _, .inr ⟨_, _, rfl, Nat.le_refl _⟩, r2⟩
    obtain ⟨zk, cs, p1, p2, p3⟩ := key
    refine ⟨[aint f, aint n, abl h, .v (.string s), zl, zk], FrzL.cons (.v _) (FrzL.cons (.v _) (FrzL.cons (.v _) (FrzL.cons (.v _) (FrzL.cons q1 (FrzL.cons p1 (FrzL.nil H)))))), ?_⟩
    simp only [TmR]
    exact ⟨zl, zk, ls, cs, rfl, q2, q3, p2, p3⟩
theorem OwnK.rep {H : AHeap} : ∀ {ks : List Tm} {lo hi : Nat} {c : List AV}, OwnK H ks lo hi c → ∃ ys, FrzL H c ys ∧ KsR ks ys
  | [], lo, hi, c, ho => by simp only [OwnK] at ho; rw [ho.1]; exact ⟨[], FrzL.nil H, trivial⟩
  | k :: r, lo, hi, c, ho => by
    simp only [OwnK] at ho
    obtain ⟨mid, c1, c2, rfl, h1, h3, h2⟩ := ho
    obtain ⟨ya, a1, a2⟩ := OwnT.rep h3
    obtain ⟨yb, b1, b2⟩ := OwnK.rep h2
    exact ⟨ya ++ yb, FrzL.app a1 b1, ksR_cons a2 (by rw [a1.1, h3.len]) b2⟩
end
end Go.Proofs.Ytooaiddfokbffaa.E

/- Copies in own blocks. Conditions: none. -/
set_option linter.unusedVariables false
set_option linter.unusedSimpArgs false
namespace Go.Proofs.Ytooaiddfokbffaa.E
open Go Go.Proofs
attribute [local go_sem] s_seq s_ops s_draw s_block s_skip s_ret s_exit i_nil i_cons i_run i_runG s_condQ c_true c_false aop ev_t ev_c updO_at updO_no upd_at t_normal t_ret t_exit b_normal b_ret b_exit a_some ac_v ac_agg ac_ptr ac_slc ac_ro ac_rop ac_fn new_next set_next argTm_zero argTm_succ argTm_nil ab_bool ab_uv beq_self_eq_true Option.some_beq_some Bool.not_not beq_iff_eq decide_true decide_false Bool.not_true Bool.not_false afld aload astore apack alen_str alen_ro alen_slc alen_nil new_get set_get ite_true ite_false Option.map_some Option.bind_some ibin isShift Nat.add_zero Nat.zero_add List.length_cons List.length_nil List.drop_zero List.drop_succ_cons List.take_succ_cons List.take_zero if_true if_false setL List.set_cons_zero List.set_cons_succ List.all_cons List.all_nil one_int one_bool one_str one_nil one_ptr one_slc one_ro one_rop one_fn Bool.and_self Bool.and_true true_and and_true and_self Bool.false_eq_true post_ret post_normal resAll resOne packR Option.some.injEq exists_eq_left' List.map_cons List.map_nil List.nil_append List.append_nil List.cons_append d_nil d_cons k_nil k_cons g_op g_same g_new avBlock forall_eq' List.getElem?_cons_succ List.getElem?_cons_zero List.getElem?_nil okind gOk bne false_imp_iff forall_const imp_self implies_true true_imp_iff i_callG

end Go.Proofs.Ytooaiddfokbffaa.E

/- A term copied into own blocks, by the code's Map. Conditions: none. -/
set_option linter.unusedVariables false
set_option linter.unusedSimpArgs false
namespace Go.Proofs.Ytooaiddfokbffaa.E
open Go Go.Proofs
attribute [local go_sem] s_seq s_ops s_draw s_block s_skip s_ret s_exit i_nil i_cons i_run i_runG s_condQ c_true c_false aop ev_t ev_c updO_at updO_no upd_at t_normal t_ret t_exit b_normal b_ret b_exit a_some ac_v ac_agg ac_ptr ac_slc ac_ro ac_rop ac_fn new_next set_next argTm_zero argTm_succ argTm_nil ab_bool ab_uv beq_self_eq_true Option.some_beq_some Bool.not_not beq_iff_eq decide_true decide_false Bool.not_true Bool.not_false afld aload astore apack alen_str alen_ro alen_slc alen_nil new_get set_get ite_true ite_false Option.map_some Option.bind_some ibin isShift Nat.add_zero Nat.zero_add List.length_cons List.length_nil List.drop_zero List.drop_succ_cons List.take_succ_cons List.take_zero if_true if_false setL List.set_cons_zero List.set_cons_succ List.all_cons List.all_nil one_int one_bool one_str one_nil one_ptr one_slc one_ro one_rop one_fn Bool.and_self Bool.and_true true_and and_true and_self Bool.false_eq_true post_ret post_normal resAll resOne packR Option.some.injEq exists_eq_left' List.map_cons List.map_nil List.nil_append List.append_nil List.cons_append d_nil d_cons k_nil k_cons g_op g_same g_new avBlock forall_eq' List.getElem?_cons_succ List.getElem?_cons_zero List.getElem?_nil okind gOk bne false_imp_iff forall_const imp_self implies_true true_imp_iff i_callG

theorem OwnT.low {H : AHeap} {t : Tm} {lo lo' hi : Nat} {c : List AV} (h : OwnT H t lo hi c) (hl : lo' ≤ lo) : OwnT H t lo' hi c := by
  cases t
  simp only [OwnT] at h ⊢
  obtain ⟨lx, kx, m, rfl, q1, q2, q3, q4⟩ := h
  refine ⟨lx, kx, m, rfl, by omega, q2, ?_, q4⟩
  rcases q3 with q3 | ⟨b, cs, g1, g2⟩
  · exact .inl q3
  · exact .inr ⟨b, cs, by omega, g2⟩
theorem LvH.wide {H : AHeap} {lo lo' hi hi' : Nat} {lv : List Lv} {x : AV} (h : LvH H lo hi lv x) (h1 : lo' ≤ lo) (h2 : hi ≤ hi') : LvH H lo' hi' lv x := by
  rcases h with h | ⟨b, cs, g1, g2, g3⟩
  · exact .inl h
  · exact .inr ⟨b, cs, by omega, by omega, g3⟩
mutual
theorem OwnT.up {H : AHeap} : ∀ {t : Tm} {lo hi hi' : Nat} {c : List AV}, OwnT H t lo hi c → hi ≤ hi' → OwnT H t lo hi' c
  | .mk f n h s lv ks, lo, hi, hi', c, ho, hl => by
    simp only [OwnT] at ho ⊢
    obtain ⟨lx, kx, m, rfl, h1, h2, h3, h4⟩ := ho
    refine ⟨lx, kx, m, rfl, h1, by omega, h3, ?_⟩
    rcases h4 with h4 | ⟨b, cs, g1, g2, g3, g4, g5⟩
    · exact .inl h4
    · exact .inr ⟨b, cs, g1, by omega, g3, g4, OwnK.up g5 hl⟩
theorem OwnK.up {H : AHeap} : ∀ {ks : List Tm} {lo hi hi' : Nat} {c : List AV}, OwnK H ks lo hi c → hi ≤ hi' → OwnK H ks lo hi' c
  | [], lo, hi, hi', c, ho, hl => by simp only [OwnK] at ho ⊢; exact ⟨ho.1, by omega⟩
  | k :: r, lo, hi, hi', c, ho, hl => by
    simp only [OwnK] at ho ⊢
    obtain ⟨mid, c1, c2, rfl, h1, h3, h2⟩ := ho
    exact ⟨mid, c1, c2, rfl, h1, h3, OwnK.up h2 hl⟩
end
theorem LvH.one {H : AHeap} {lo hi : Nat} {lv : List Lv} {x : AV} (h : LvH H lo hi lv x) : x.one = true := by
  rcases h with ⟨_, rfl⟩ | ⟨b, cs, _, _, rfl, _⟩ <;> rfl
theorem LvH.cells {H : AHeap} {lo hi : Nat} {lv : List Lv} {x : AV} (h : LvH H lo hi lv x) : x.acells = [x] := by
  rcases h with ⟨_, rfl⟩ | ⟨b, cs, _, _, rfl, _⟩ <;> rfl
theorem OwnT.six {H : AHeap} {t : Tm} {lo hi : Nat} {c : List AV} (h : OwnT H t lo hi c) : ∃ lx kx, c = [aint t.form, aint t.n, abl t.hid, .v (.string t.name), lx, kx] ∧ lx.one = true ∧ lx.acells = [lx] ∧ kx.one = true ∧ kx.acells = [kx] ∧ c.all AV.one = true := by
  obtain ⟨f, n, hd, s, lv, ks⟩ := t
  simp only [OwnT] at h
  obtain ⟨lx, kx, m, rfl, q1, q2, q3, q4⟩ := h
  have k1 : kx.one = true := by
    rcases q4 with ⟨_, rfl⟩ | ⟨b, cs, _, _, rfl, _⟩ <;> rfl
  have k2 : kx.acells = [kx] := by
    rcases q4 with ⟨_, rfl⟩ | ⟨b, cs, _, _, rfl, _⟩ <;> rfl
  exact ⟨lx, kx, rfl, q3.one, q3.cells, k1, k2, by simp [q3.one, k1, one_int, one_bool, one_str]⟩
theorem cleanK_take : ∀ (ks : List Tm) (i : Nat) (hi : i < ks.length), cleanK (ks.take (i + 1)) = cleanK (ks.take i) ++ [cleanT ks[i]]
  | k :: r, 0, _ => rfl
  | k :: r, i + 1, hi => by
    simp only [List.take_succ_cons, cleanK, List.cons_append, List.getElem_cons_succ]
    rw [cleanK_take r i (by simpa using hi)]
end Go.Proofs.Ytooaiddfokbffaa.E

/- Terms lifted as the reference does it. Conditions: none. -/
set_option linter.unusedVariables false
set_option linter.unusedSimpArgs false
namespace Go.Proofs.Ytooaiddfokbffaa.E
open Go Go.Proofs
attribute [local go_sem] s_seq s_ops s_draw s_block s_skip s_ret s_exit i_nil i_cons i_run i_runG s_condQ c_true c_false aop ev_t ev_c updO_at updO_no upd_at t_normal t_ret t_exit b_normal b_ret b_exit a_some ac_v ac_agg ac_ptr ac_slc ac_ro ac_rop ac_fn new_next set_next argTm_zero argTm_succ argTm_nil ab_bool ab_uv beq_self_eq_true Option.some_beq_some Bool.not_not beq_iff_eq decide_true decide_false Bool.not_true Bool.not_false afld aload astore apack alen_str alen_ro alen_slc alen_nil new_get set_get ite_true ite_false Option.map_some Option.bind_some ibin isShift Nat.add_zero Nat.zero_add List.length_cons List.length_nil List.drop_zero List.drop_succ_cons List.take_succ_cons List.take_zero if_true if_false setL List.set_cons_zero List.set_cons_succ List.all_cons List.all_nil one_int one_bool one_str one_nil one_ptr one_slc one_ro one_rop one_fn Bool.and_self Bool.and_true true_and and_true and_self Bool.false_eq_true post_ret post_normal resAll resOne packR Option.some.injEq exists_eq_left' List.map_cons List.map_nil List.nil_append List.append_nil List.cons_append d_nil d_cons k_nil k_cons g_op g_same g_new avBlock forall_eq' List.getElem?_cons_succ List.getElem?_cons_zero List.getElem?_nil okind gOk bne false_imp_iff forall_const imp_self implies_true true_imp_iff i_callG

/-- Terms in cells, one behind the other, none of them leading to a block. -/
def KsX : List Tm → List AV → Prop
  | [], cs => cs = []
  | k :: r, cs => ∃ c cs', cs = c ++ cs' ∧ TmP k c ∧ KsX r cs'
theorem KsX.len : ∀ {ks : List Tm} {cs : List AV}, KsX ks cs → cs.length = ks.length * 6
  | [], cs, h => by simp only [KsX] at h; subst h; rfl
  | k :: r, cs, h => by
    simp only [KsX] at h
    obtain ⟨c, cs', rfl, h1, h2⟩ := h
    have := KsX.len h2
    have := h1.1.len
    simp; omega
theorem KsX.old : ∀ {ks : List Tm} {cs : List AV}, KsX ks cs → ∀ y ∈ cs, Old 0 y
  | [], cs, h, y, hy => by simp only [KsX] at h; subst h; cases hy
  | k :: r, cs, h, y, hy => by
    simp only [KsX] at h
    obtain ⟨c, cs', rfl, h1, h2⟩ := h
    rcases List.mem_append.1 hy with hy | hy
    · exact h1.2 y hy
    · exact KsX.old h2 y hy
theorem KsX.snoc : ∀ {ks : List Tm} {cs : List AV} {k : Tm} {c : List AV}, KsX ks cs → TmP k c → KsX (ks ++ [k]) (cs ++ c)
  | [], cs, k, c, h, hc => by simp only [KsX] at h; subst h; exact ⟨c, [], by simp, hc, rfl⟩
  | k0 :: r, cs, k, c, h, hc => by
    simp only [KsX] at h
    obtain ⟨c0, cs', rfl, h1, h2⟩ := h
    exact ⟨c0, cs' ++ c, by simp, h1, KsX.snoc h2 hc⟩
theorem KsX.rel : ∀ {ks : List Tm} {cs : List AV}, KsX ks cs → KsR ks cs
  | [], cs, h => trivial
  | k :: r, cs, h => by
    simp only [KsX] at h
    obtain ⟨c, cs', rfl, h1, h2⟩ := h
    have hl := h1.1.len
    simp only [KsR]
    rw [List.take_append_of_le_length (by omega), List.take_of_length_le (by omega), List.drop_append_of_le_length (by omega), List.drop_of_length_le (by omega), List.nil_append]
    exact ⟨h1.1, h2.rel⟩

/-- A row of terms that leads to no block. -/
def SlK (ks : List Tm) (x : AV) : Prop := (∃ cs, SlR ks.length x cs ∧ KsR ks cs) ∧ Old 0 x
theorem SlK.of {ks : List Tm} {y : AV} {cs : List AV} (hc : KsX ks cs) (h : (ks.length = 0 ∧ y = .v (.slice none 0 0)) ∨ ∃ lo ex, y = .ro ks.length lo ex cs ∧ ks.length ≤ lo) : SlK ks y := by
  refine ⟨⟨_, h, hc.rel⟩, ?_⟩
  rcases h with ⟨_, rfl⟩ | ⟨lo, ex, rfl, _⟩
  · exact .v _
  · exact .ro _ _ _ _ hc.old
theorem tmp_mk {f n : Int} {h : Bool} {s : ByteArray} {lv : List Lv} {ks : List Tm} {x y : AV} (hx : SlL lv x) (hy : SlK ks y) : TmP (.mk f n h s lv ks) [aint f, aint n, abl h, .v (.string s), x, y] := by
  obtain ⟨⟨cs, h1, h2⟩, h3⟩ := hx
  obtain ⟨⟨ds, g1, g2⟩, g3⟩ := hy
  refine ⟨?_, fun z hz => ?_⟩
  · simp only [TmR]
    exact ⟨x, y, cs, ds, rfl, h1, h2, g1, g2⟩
  · simp at hz
    rcases hz with rfl | rfl | rfl | rfl | rfl | rfl
    · exact .v _
    · exact .v _
    · exact .v _
    · exact .v _
    · exact h3
    · exact g3

mutual
def rlT (fr by_ : Int) : Tm → Tm
  | .mk f n h s lv ks => if f = 1 ∧ n ≥ fr then .mk f (n + by_) h s lv ks else .mk f n h s lv (rlK fr by_ f 0 ks)
def rlK (fr by_ f : Int) (i : Nat) : List Tm → List Tm
  | [] => []
  | k :: r => rlT (underF f i fr) by_ k :: rlK fr by_ f (i + 1) r
end
end Go.Proofs.Ytooaiddfokbffaa.E
