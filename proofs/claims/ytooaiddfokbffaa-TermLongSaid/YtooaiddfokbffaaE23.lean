/- Steps of code over abstract states, as equations. Conditions: none. -/
import Derived.Test.YtooaiddfokbffaaE22
set_option linter.unusedVariables false
set_option linter.unusedSimpArgs false
namespace Go.Proofs.Ytooaiddfokbffaa.E
open Go

section
variable {P : Program} {Q : AExit → ASt → Prop} {K : ASt → Prop} {st : ASt} {tm : Nat → AV} {H : AHeap}

theorem s_skip : swp P .skip Q st = Q .normal st := rfl
theorem s_ret : swp P .ret Q st = Q .ret st := rfl
theorem s_exit (id : Nat) : swp P (.exit id) Q st = Q (.exit id) st := rfl
theorem s_ops (l : List AI) : swp P (.ops l) Q st = swpI P l (Q .normal) st := rfl
theorem s_draw (l : List DItem) : swp P (.draw l) Q st = swpD P [] l (Q .normal) st := rfl
theorem s_seq (a b : ACode) : swp P (.seq a b) Q st = swp P a (thenQ (swp P b Q) Q) st := rfl
theorem s_block (id : Nat) (b : ACode) : swp P (.block id b) Q st = swp P b (inBlockQ id Q) st := rfl
theorem s_cond {c : AArg} {x y : ACode} {t : Bool} (h : c.ev st.tm = .v (.bool t)) : swp P (.cond c x y) Q st = if t = true then swp P x Q st else swp P y Q st := by
  simp only [swp, h]
theorem i_nil : swpI P [] K st = K st := rfl
theorem i_cons (i : AI) (r : List AI) : swpI P (i :: r) K st = stepI P i st (swpI P r K) := rfl
theorem d_nil (dn : List AI) : swpD P dn [] K st = K st := rfl
def agO (st st' : ASt) : Option AI → Prop
  | some c => again st st' c
  | none => True
def chkP (st st' : ASt) (dn : List AI) : List Nat → Prop
  | [] => True
  | p :: r => agO st st' dn[p]? ∧ chkP st st' dn r
theorem chkP_iff {st st' : ASt} {dn : List AI} : ∀ (l : List Nat), (∀ p ∈ l, ∀ c, dn[p]? = some c → again st st' c) ↔ chkP st st' dn l
  | [] => by simp [chkP]
  | p :: r => by
    simp only [List.mem_cons, forall_eq_or_imp, chkP, chkP_iff r]
    have : (∀ c, dn[p]? = some c → again st st' c) ↔ agO st st' dn[p]? := by
      cases h : dn[p]? with
      | none => simp [agO]
      | some c => simp [agO]
    rw [this]
theorem k_nil {st st' : ASt} {dn : List AI} : chkP st st' dn [] = True := rfl
theorem k_cons {st st' : ASt} {dn : List AI} (p : Nat) (r : List Nat) : chkP st st' dn (p :: r) = (agO st st' dn[p]? ∧ chkP st st' dn r) := rfl
def agK (st st' : ASt) (d : Nat) (o : AOp) : OKind → Prop
  | .same => aop st'.tm st'.heap o = some (st.tm d, st'.heap)
  | .new => ∀ b, avBlock (st.tm d) = some b → st'.heap.get b = st.heap.get b
  | .heavy => True
theorem g_same {st st' : ASt} {d : Nat} {o : AOp} : agK st st' d o .same = (aop st'.tm st'.heap o = some (st.tm d, st'.heap)) := rfl
theorem g_new {st st' : ASt} {d : Nat} {o : AOp} : agK st st' d o .new = ∀ b, avBlock (st.tm d) = some b → st'.heap.get b = st.heap.get b := rfl
theorem g_op {st st' : ASt} {d : Nat} {o : AOp} : agO st st' (some (.op (some d) none o)) = agK st st' d o (okind o) := by
  apply propext
  simp only [agO, again, gOk, true_imp_iff]
  cases okind o <;> rfl
theorem d_cons (dn : List AI) (it : DItem) (r : List DItem) :
    swpD P dn (it :: r) K st = stepI P it.ins st fun st' => chkP st st' dn it.chk ∧ swpD P (dn ++ [it.ins]) r K st' := by
  simp only [swpD, chkP_iff]
theorem i_op {d : Option Nat} {o : AOp} {x : AV} {H' : AHeap} (h : aop tm H o = some (x, H')) : stepI P (.op d none o) ⟨tm, H⟩ K = K ⟨updO tm d x, H'⟩ := by
  apply propext
  simp only [stepI, stepV, gOk, if_true, h, AI.dst, Option.some.injEq, Prod.mk.injEq]
  exact ⟨fun ⟨_, _, ⟨e1, e2⟩, h⟩ => by subst e1 e2; exact h, fun h => ⟨_, _, ⟨rfl, rfl⟩, h⟩⟩
theorem i_opT {d : Option Nat} {t : Nat} {b : Bool} {o : AOp} {x : AV} {H' : AHeap} (hg : tm t = .v (.bool b)) (h : aop tm H o = some (x, H')) : stepI P (.op d (some (t, b)) o) ⟨tm, H⟩ K = K ⟨updO tm d x, H'⟩ := by
  apply propext
  simp only [stepI, stepV, gOk, hg, abool, BEq.rfl, if_true, h, AI.dst, Option.some.injEq, Prod.mk.injEq]
  exact ⟨fun ⟨_, _, ⟨e1, e2⟩, h⟩ => by subst e1 e2; exact h, fun h => ⟨_, _, ⟨rfl, rfl⟩, h⟩⟩
theorem i_opF {d : Option Nat} {t : Nat} {b b' : Bool} {o : AOp} (hg : tm t = .v (.bool b')) (hb : b' ≠ b) : stepI P (.op d (some (t, b)) o) ⟨tm, H⟩ K = K ⟨updO tm d uv, H⟩ := by
  have : (some b' == some b) = false := by simpa using hb
  simp only [stepI, stepV, gOk, hg, abool, this, AI.dst, Bool.false_eq_true, if_false]
def after (K : ASt → Prop) (tm : Nat → AV) (d : Option Nat) : Option (AV × AHeap) → Prop
  | some (x, H') => K ⟨updO tm d x, H'⟩
  | none => False
theorem a_some {d : Option Nat} {x : AV} {H' : AHeap} : after K tm d (some (x, H')) = K ⟨updO tm d x, H'⟩ := rfl
theorem i_run {d : Option Nat} {o : AOp} : stepI P (.op d none o) ⟨tm, H⟩ K = after K tm d (aop tm H o) := by
  cases h : aop tm H o with
  | some p => obtain ⟨x, H'⟩ := p; rw [i_op h]; rfl
  | none =>
    apply propext
    simp only [stepI, stepV, gOk, if_true, h, after]
    simp
def gOn (tm : Nat → AV) (t : Nat) (b : Bool) : Bool := abool (tm t) == some b
theorem gOn_at {tm : Nat → AV} {t : Nat} {b b' : Bool} (h : tm t = .v (.bool b')) : gOn tm t b = (b' == b) := by
  cases b <;> cases b' <;> simp [gOn, h, abool]
theorem i_runG {d : Option Nat} {t : Nat} {b : Bool} {o : AOp} : stepI P (.op d (some (t, b)) o) ⟨tm, H⟩ K = if (abool (tm t) == some b) = true then after K tm d (aop tm H o) else K ⟨updO tm d uv, H⟩ := by
  rw [← i_run (P := P)]
  by_cases hg : (abool (tm t) == some b) = true
  · rw [if_pos hg]
    simp only [stepI, stepV, gOk, hg, if_true]
    rfl
  · rw [if_neg hg]
    simp only [stepI, stepV, gOk, hg, if_false]
    rfl
def condQ (P : Program) (x y : ACode) (Q : AExit → ASt → Prop) (st : ASt) : AV → Prop
  | .v (.bool t) => if t = true then swp P x Q st else swp P y Q st
  | _ => False
theorem s_condQ (c : AArg) (x y : ACode) : swp P (.cond c x y) Q st = condQ P x y Q st (c.ev st.tm) := by
  simp only [swp]
  unfold condQ
  rfl
theorem c_bool (x y : ACode) (t : Bool) : condQ P x y Q st (.v (.bool t)) = if t = true then swp P x Q st else swp P y Q st := rfl
theorem c_true (x y : ACode) : condQ P x y Q st (.v (.bool true)) = swp P x Q st := rfl
theorem c_false (x y : ACode) : condQ P x y Q st (.v (.bool false)) = swp P y Q st := rfl
theorem i_call {d : Option Nat} {f : AArg} {args : List AArg} {fid : FuncId} {fs cs : List AV} {R : AV → AHeap → Prop} (hf : f.ev tm = .fn (.func fid) fs cs) (h : SCall P fid (fs ++ (args.map (·.ev tm) ++ cs)) H R)
    (hk : ∀ x H', R x H' → K ⟨updO tm d x, H'⟩) : stepI P (.call d none f args) ⟨tm, H⟩ K := by
  simp only [stepI, stepV, gOk, if_true]
  exact ⟨fid, fs, cs, hf, h.mono hk⟩

theorem i_callG {d : Option Nat} {t : Nat} {b : Bool} {f : AArg} {args : List AArg} : stepI P (.call d (some (t, b)) f args) ⟨tm, H⟩ K = if (abool (tm t) == some b) = true then stepI P (.call d none f args) ⟨tm, H⟩ K else K ⟨updO tm d uv, H⟩ := by
  by_cases hg : (abool (tm t) == some b) = true
  · rw [if_pos hg]
    simp only [stepI, stepV, gOk, hg, if_true]
    rfl
  · rw [if_neg hg]
    simp only [stepI, stepV, gOk, hg, if_false]
    rfl
theorem i_callA {d : Option Nat} {f : AArg} {args : List AArg} {fid : FuncId} {fs cs : List AV} {as : List AV} {R : AV → AHeap → Prop} (hf : f.ev tm = .fn (.func fid) fs cs) (ha : fs ++ (args.map (·.ev tm) ++ cs) = as) (h : SCall P fid as H R)
    (hk : ∀ x H', R x H' → K ⟨updO tm d x, H'⟩) : stepI P (.call d none f args) ⟨tm, H⟩ K := i_call hf (ha ▸ h) hk

theorem t_normal {st : ASt} : thenQ K Q .normal st = K st := rfl
theorem t_ret {st : ASt} : thenQ K Q .ret st = Q .ret st := rfl
theorem t_exit {id : Nat} {st : ASt} : thenQ K Q (.exit id) st = Q (.exit id) st := rfl
theorem b_normal {id : Nat} {st : ASt} : inBlockQ id Q .normal st = Q .normal st := rfl
theorem b_ret {id : Nat} {st : ASt} : inBlockQ id Q .ret st = Q .ret st := rfl
theorem b_exit {id id' : Nat} {st : ASt} : inBlockQ id Q (.exit id') st = if id' = id then Q .normal st else Q (.exit id') st := rfl

theorem upd_at (tm : Nat → AV) (d n : Nat) (x : AV) : upd tm d x n = if n = d then x else tm n := rfl
theorem ev_t (tm : Nat → AV) (n : Nat) : (AArg.t n).ev tm = tm n := rfl
theorem ev_c (tm : Nat → AV) (x : AV) : (AArg.c x).ev tm = x := rfl
theorem updO_some (tm : Nat → AV) (d : Nat) (x : AV) : updO tm (some d) x = upd tm d x := rfl
theorem updO_none (tm : Nat → AV) (x : AV) : updO tm none x = tm := rfl
theorem argTm_nil (n : Nat) : argTm [] n = uv := rfl
theorem argTm_zero (x : AV) (xs : List AV) : argTm (x :: xs) 0 = x := rfl
theorem argTm_succ (x : AV) (xs : List AV) (n : Nat) : argTm (x :: xs) (n + 1) = argTm xs n := by simp [argTm]
theorem new_next (H : AHeap) (o : AObj) : (H.new o).next = H.next + 1 := rfl
theorem set_next (H : AHeap) (b : Nat) (o : AObj) : (H.set b o).next = H.next := rfl
theorem ab_bool (b : Bool) : abool (.v (.bool b)) = some b := rfl
theorem ab_uv : abool uv = none := rfl
theorem one_int (k : IntKind) (n : Int) : AV.one (.v (.int k n)) = true := rfl
theorem one_bool (b : Bool) : AV.one (.v (.bool b)) = true := rfl
theorem one_str (b : ByteArray) : AV.one (.v (.string b)) = true := rfl
theorem one_nil (a : Option Addr) (n c : Nat) : AV.one (.v (.slice a n c)) = true := rfl
theorem one_ptr (b o : Nat) : AV.one (.ptr b o) = true := rfl
theorem one_slc (b o es n lo : Nat) (ex : Bool) : AV.one (.slc b o es n lo ex) = true := rfl
theorem one_ro (n lo : Nat) (ex : Bool) (cs : List AV) : AV.one (.ro n lo ex cs) = true := rfl
theorem one_rop (cs : List AV) (o : Nat) : AV.one (.rop cs o) = true := rfl
theorem one_fn (f : Fn) (a b : List AV) : AV.one (.fn f a b) = true := rfl
theorem ac_v (x : Value) : AV.acells (.v x) = [.v x] := rfl
theorem ac_agg (cs : List AV) : AV.acells (.agg cs) = cs := rfl
theorem ac_ptr (b o : Nat) : AV.acells (.ptr b o) = [.ptr b o] := rfl
theorem ac_slc (b o es n lo : Nat) (ex : Bool) : AV.acells (.slc b o es n lo ex) = [.slc b o es n lo ex] := rfl
theorem ac_ro (n lo : Nat) (ex : Bool) (cs : List AV) : AV.acells (.ro n lo ex cs) = [.ro n lo ex cs] := rfl
theorem ac_rop (cs : List AV) (o : Nat) : AV.acells (.rop cs o) = [.rop cs o] := rfl
theorem ac_fn (f : Fn) (a b : List AV) : AV.acells (.fn f a b) = [.fn f a b] := rfl

theorem post_ret {rs : List ARes} {R : AV → AHeap → Prop} {st : ASt} : postF rs R .ret st = ∃ vs, resAll st rs = some vs ∧ R (packR vs) st.heap := rfl
theorem post_normal {rs : List ARes} {R : AV → AHeap → Prop} {st : ASt} : postF rs R .normal st = ∃ vs, resAll st rs = some vs ∧ R (packR vs) st.heap := rfl

theorem updO_at (tm : Nat → AV) (d n : Nat) (x : AV) : updO tm (some d) x n = if n = d then x else tm n := rfl
theorem updO_no (tm : Nat → AV) (n : Nat) (x : AV) : updO tm none x n = tm n := rfl

/-! What is yet to come is not looked into. -/
@[congr] theorem g_after {r r' : Option (AV × AHeap)} {d : Option Nat} (h : r = r') : after K tm d r = after K tm d r' := by rw [h]
@[congr] theorem g_swp (c : ACode) : swp P c Q st = swp P c Q st := rfl
@[congr] theorem g_swpI (l : List AI) : swpI P l K st = swpI P l K st := rfl
@[congr] theorem g_swpD (dn : List AI) (l : List DItem) : swpD P dn l K st = swpD P dn l K st := rfl
@[congr] theorem g_stepI (i : AI) : stepI P i st K = stepI P i st K := rfl
@[congr] theorem g_thenQ (e : AExit) : thenQ K Q e st = thenQ K Q e st := rfl
@[congr] theorem g_inBlock (id : Nat) (e : AExit) : inBlockQ id Q e st = inBlockQ id Q e st := rfl
@[congr] theorem g_cond {x y : ACode} {v v' : AV} (h : v = v') : condQ P x y Q st v = condQ P x y Q st v' := by rw [h]
@[congr] theorem g_post (rs : List ARes) (R : AV → AHeap → Prop) (e : AExit) : postF rs R e st = postF rs R e st := rfl

end
end Go.Proofs.Ytooaiddfokbffaa.E
