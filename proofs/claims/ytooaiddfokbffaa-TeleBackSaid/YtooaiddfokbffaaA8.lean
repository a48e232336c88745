/- The row TeleBack: whatever the input, the law answers true. Conditions: none. -/
import Derived.Test.YtooaiddfokbffaaA7
import Derived.Test.YtooaiddfokbffaaRows
import Derived.WalkKit
import Derived.ProofKit
import Derived.OpenShut
import Derived.ShutString
import Derived.ChangeOld
import Derived.Below
import Derived.SizedLaws
import Derived.Carry
/- Functions with ranges over functions, and the rounds of these. Conditions: none. -/
set_option linter.unusedVariables false
set_option linter.unusedSimpArgs false
namespace Go.Proofs.Ytooaiddfokbffaa.E
open Go

def postX (rs : List ARes) (R : AV → AHeap → Prop) : AExit → ASt → List ADef → Prop
  | .exit _, _, _ => False
  | _, st, _ => ∃ vs, resAll st rs = some vs ∧ R (packR vs) st.heap

section
variable {e : Emb} {w : World} {H : AHeap} {P : Program}

theorem DRel.putBeside {lo B D : Nat} {o : Obj} {ds : List ADef} {Ds : List Deferred} (h : DRel e w lo B ds Ds) (hB : B ≤ D) : DRel e (w.putObj D o) lo B ds Ds := by
  induction h with
  | nil => exact .nil _
  | mark B D' ds Ds h1 h2 h3 h4 h ih => exact .mark B D' ds Ds h1 h2 (by rw [World.putObj_heap_other (by omega)]; exact h3) h4 (ih (by omega))

theorem Evo.putNew {e0 : Emb} {w0 : World} (hv : Evo e0 w0 e w) {D : Nat} (hD : w0.heap.size ≤ D) (o : Obj) (hn : ∀ cs t fr, w.heap[D]? ≠ some (.cells cs t fr)) : Evo e0 w0 e (w.putObj D o) :=
  ⟨⟨hv.os, hv.output, hv.tape, by simpa using hv.size, fun c hc hh => by rw [World.putObj_heap_other (by omega)]; exact hv.frame c hc hh, hv.next, hv.old, hv.hits,
    fun c cs t fr hc => by
      obtain ⟨cs', t', fr', k1, k2⟩ := hv.sizes c cs t fr hc
      have hlt := (Array.getElem?_eq_some_iff.1 hc).1
      exact ⟨cs', t', fr', by rw [World.putObj_heap_other (by omega)]; exact k1, k2⟩⟩, hv.un⟩

theorem leave_marks {F : Fence} {n : Nat} {fn : Func} {tmps : Array Value} {R : Ending → World → Prop} {e0 : Emb} {w0 : World} {lo : Nat} (hlo : w0.heap.size ≤ lo) :
    ∀ (ds : List ADef) (Ds : List Deferred) (B : Nat) (w : World), DRel e w lo B ds Ds → HRel e H w → Evo e0 w0 e w → (∀ w', HRel e H w' → Evo e0 w0 e w' → (∀ x u, VRel e w x u → VRel e w' x u) → ∃ v, (results fn tmps).run P w' = .ok v w' ∧ R (.returned v) w') →
      LeavesInM F n P fn tmps R Ds .returning w := by
  intro ds
  induction ds with
  | nil =>
    intro Ds B w hD hH hv hfin
    cases hD
    exact hfin w hH hv fun _ _ h => h
  | cons d ds ih =>
    intro Ds B w hD hH hv hfin
    cases hD with
    | mark _ D _ Ds' h1 h2 h3 h4 h =>
    have hn : ∀ cs t fr, w.heap[D]? ≠ some (.cells cs t fr) := fun cs t fr hh => by rw [h3] at hh; cases hh
    refine ⟨by simp, .inl ⟨D, _, rfl, run_takeDeferred h3, ?_⟩⟩
    exact ih Ds' D _ (h.putBeside (Nat.le_refl _)) (hH.putBeside hn h4) (hv.putNew (Nat.le_trans hlo h1) _ hn) fun w' k1 k2 k3 => hfin w' k1 k2 fun x u hx => k3 x u (hx.putBeside hn)

theorem results_rel {rv : Array ResultVar} {fn : Func} (hrv : fn.results = rv) {rs : List ARes} (hrs : compRes P rv.toList = some rs) {Ds : List Deferred} {N : Nat} {st : ASt} {a : Act} (hS : StRel Ds N e st a w) {vs : List AV} (h1 : resAll st rs = some vs) :
    ∃ v, (results fn a.tmps).run P w = .ok v w ∧ VRel e w (packR vs) v := by
  subst hrv
  obtain ⟨us', k1, k2⟩ := run_resAll hS _ _ hrs vs h1
  have hmap : (fn.results.mapM (resSem a.tmps)).run P w = .ok us'.toArray w := by
    rw [Array.mapM_eq_mapM_toList]
    simp only [Sem.run_map]
    erw [k1]
    rfl
  have hres : (results fn a.tmps).run P w = .ok (if h : us'.toArray.size = 1 then us'.toArray[0] else .tuple us'.toArray) w := by
    unfold results
    simp only [Sem.run_bind]
    erw [hmap]
    rfl
  refine ⟨_, hres, ?_⟩
  match vs, us', k2 with
  | [x], [u], k2 => exact k2.head
  | [], [], k2 => exact .tup _ _ (by simp) (fun i x u h => by simp at h)
  | x :: y :: xs, u :: v :: us, k2 =>
    rw [dif_neg (by simp)]
    exact .tup _ _ (by simpa using k2.1) (fun i x u h1 h2 => k2.2 i x u h1 (by simpa using h2))
  | [x], [], k2 => have := k2.1; simp at this
  | [x], u :: v :: us, k2 => have := k2.1; simp at this
  | [], u :: us, k2 => have := k2.1; simp at this
  | x :: y :: xs, [], k2 => have := k2.1; simp at this
  | x :: y :: xs, [u], k2 => have := k2.1; simp at this

theorem SCall.introX (hm : P.follows .mixedOrders = true) {f : FuncId} {plans : List (Nat × List (Nat × List Nat))} {F : AFn} (hc : compFn P f plans = some F) {args : List AV} {H : AHeap} {R : AV → AHeap → Prop}
    (h : swpX P none F.code (postX F.res R) ⟨argTm args, H⟩ []) : SCall P f args H R := by
  unfold compFn at hc
  split at hc
  case h_2 => cases hc
  rename_i fn hf
  split at hc
  case h_2 => cases hc
  rename_i c hb
  split at hc
  case isTrue => cases hc
  rename_i hn
  split at hc
  case h_2 => cases hc
  rename_i ac rs hac hrs
  injection hc with hc
  subst hc
  refine ⟨⟨fn, hf, by simpa using hn, by rw [hb]; rfl⟩, fun e w us hH hL => callsIn_wide.1 (callsIn_of_wp_marks (F := Fence.wide) (n := 0) hf hb trivial ?_)⟩
  have hS : StX w.heap.size w.heap.size none none fn.ntmps e ⟨argTm args, H⟩ [] ⟨us.toArray ++ Array.replicate (fn.ntmps - us.toArray.size) undef, []⟩ w := ⟨hH, argTm_rel hL _, by simp; omega, .nil _, trivial, Nat.le_refl _⟩
  refine swpX_sound (rd := none) hm c ac hac _ e w _ _ _ hS (Nat.le_refl _) _ h _ fun x st' ds' a' w' e' B' k hs hv => ?_
  have fin : (∃ vs, resAll st' rs = some vs ∧ R (packR vs) st'.heap) → LeavesInM Fence.wide 0 P fn a'.tmps (CPost e w R) a'.defers .returning w' := by
    rintro ⟨vs, h1, h2⟩
    refine leave_marks (Nat.le_refl _) ds' _ B' w' hs.defs hs.heap hv fun w2 k1 k2 k3 => ?_
    obtain ⟨v, h3, h4⟩ := results_rel (P := P) (e := e') (w := w2) rfl hrs (Ds := a'.defers) (N := fn.ntmps) (st := st') (a := a') ⟨k1, fun n => k3 _ _ (hs.tm n), hs.size, rfl⟩ h1
    exact ⟨v, h3, v, _, _, e', rfl, h2, k1, h4, k2⟩
  cases x with
  | normal => exact fin k
  | ret => exact fin k
  | exit id => exact k.elim

/-! ### Rounds -/
def setPs (tm : Nat → AV) : List Tmp → List AV → (Nat → AV)
  | p :: ps, x :: xs => setPs (upd tm p x) ps xs
  | _, _ => tm

theorem setPs_rel {N : Nat} : ∀ (ps : List Tmp) (xs : List AV) (us : List Value) (tm : Nat → AV) (tmps : Array Value), ps.all (· < N) = true → N ≤ tmps.size → LRel e w xs us → (∀ n, VRel e w (tm n) (tmps.getD n undef)) →
    N ≤ ((ps.zip us).foldl (fun t (p : Tmp × Value) => t.setIfInBounds p.1 p.2) tmps).size ∧ ∀ n, VRel e w (setPs tm ps xs n) (((ps.zip us).foldl (fun t (p : Tmp × Value) => t.setIfInBounds p.1 p.2) tmps).getD n undef) := by
  intro ps
  induction ps with
  | nil => intro xs us tm tmps _ hN _ hT; exact ⟨hN, hT⟩
  | cons p ps ih =>
    intro xs us tm tmps hps hN hL hT
    cases xs with
    | nil =>
      have : us = [] := List.eq_nil_of_length_eq_zero hL.1
      subst this
      exact ⟨hN, hT⟩
    | cons x xs =>
      cases us with
      | nil => exact absurd hL.1 (by simp)
      | cons u us =>
        simp only [List.all_cons, Bool.and_eq_true, decide_eq_true_eq] at hps
        simp only [List.zip_cons_cons, List.foldl_cons, setPs]
        refine ih xs us _ _ hps.2 (by simpa using hN) hL.tail fun n => ?_
        simp only [upd, Array.getD_eq_getD_getElem?, Array.getElem?_setIfInBounds]
        by_cases h : n = p
        · subst h
          have hlt : n < tmps.size := Nat.lt_of_lt_of_le hps.1 hN
          simp [hlt]
          exact hL.head
        · rw [if_neg h, if_neg (fun hh => h hh.symm)]
          have := hT n
          simpa [Array.getD_eq_getD_getElem?] using this

/-- What is asked at a round's end. -/
def roundQ (b : Nat) (R : AV → AHeap → Prop) : AExit → ASt → List ADef → Prop := fun x st _ =>
  ∃ L2, st.heap.get b = some (.loop L2) ∧ match x with
    | .normal => R (.v (.bool true)) (st.heap.set b (.loop { L2 with st := .ready, pend := none }))
    | .ret => R (.v (.bool false)) (st.heap.set b (.loop { L2 with st := .done, pend := some .ret }))
    | .exit id => R (.v (.bool false)) (st.heap.set b (.loop { L2 with st := .done, pend := some (.exit id) }))

/-- What is asked behind the assignments to the loop's left sides: the body. -/
def bodyQ (P : Program) (b : Nat) (ac : ACode) (R : AV → AHeap → Prop) : AExit → ASt → List ADef → Prop
  | .normal, st, ds => ds = [] ∧ ∃ L1, st.heap.get b = some (.loop L1) ∧ L1.st = .ready ∧ swpX P (some b) ac (roundQ b R) ⟨st.tm, st.heap.set b (.loop { L1 with st := .busy })⟩ []
  | _, _, _ => False

theorem SVal.yld (hm : P.follows .mixedOrders = true) {b : Nat} {L : ALoop} {args : List AV} {plans plans' : List (Nat × List (Nat × List Nat))} {ac1 ac2 : ACode} {R : AV → AHeap → Prop} (hb : H.get b = some (.loop L))
    (hps : L.ps.toList.all (· < L.n) = true) (hn : args.length = L.ps.size) (h1 : compCode P L.n plans L.ca = some ac1) (h2 : compCode P L.n plans' L.cb = some ac2)
    (h : swpX P (some b) ac1 (bodyQ P b ac2 R) ⟨setPs L.tm L.ps.toList args, H⟩ []) : SVal P (.yld b) args H R := by
  intro e w uf us n hH hv hL
  cases hv with
  | yld _ c hc =>
  obtain ⟨hlive, r, m1, m2, m3, m4, m5, m6, m7, m8⟩ := getLoop_of hH hb hc
  refine ⟨_, rfl, ?_⟩
  have hy := run_yield (P := P) (args := #[] ++ us.toArray) m1 (by rw [m6, ← hn, ← hL.1]; simp)
  simp only [invoke]
  rw [hy]
  have hfold : ((r.params.zip (#[] ++ us.toArray)).foldl (fun tmps (t, a) => tmps.setIfInBounds t a) r.tmps) = ((L.ps.toList.zip us).foldl (fun t (p : Tmp × Value) => t.setIfInBounds p.1 p.2) r.tmps) := by
    rw [← Array.foldl_toList, m6]
    simp
  obtain ⟨hN, hT⟩ := setPs_rel L.ps.toList args us L.tm r.tmps hps m4 hL m5
  rw [← hfold] at hN hT
  have fin : ∀ (a2 : Act) (w2 : World) (e2 : Emb) (jump : Option Code) (st2 : ASt) (L2 : ALoop), HRel e2 st2.heap w2 → st2.heap.get b = some (.loop L2) → Evo e w e2 w2 →
      R (.v (.bool jump.isNone)) (st2.heap.set b (.loop { L2 with st := if jump.isNone then .ready else .done, pend := jump })) →
      ∃ v w', (Instr.endRound c jump).run P w2 = .ok v w' ∧ CPost e w R (.returned v) w' := by
    intro a2 w2 e2 jump st2 L2 hH2 hb2 hv2 hR
    have hc2 := hv2.old _ _ hc
    obtain ⟨_, r2, p1, p2, p3, p4, p5, p6, p7, p8⟩ := getLoop_of hH2 hb2 hc2
    obtain ⟨q1, q2⟩ := hH2.setLoop (L' := { L2 with st := if jump.isNone then .ready else .done, pend := jump }) hb2 hc2 p1 (r' := { r2 with state := if jump.isNone then .ready else .done, pending := jump }) ⟨rfl, rfl, p4, p5, p6, p7, p8⟩
    exact ⟨_, _, run_endRound jump p1, _, _, _, e2, rfl, hR, q1, .v _ rfl, hv2.trans q2⟩
  refine roundIn_of_wpIn (F := Fence.wide) trivial ?_
  rw [m7, m8]
  refine swpX_sound (rd := some c) (cx := some b) (lo := w.heap.size) hm L.ca ac1 h1 w.heap.size e w ⟨setPs L.tm L.ps.toList args, H⟩ [] { tmps := _, defers := [] } ⟨hH, (show TRel e w _ ⟨_, []⟩ from hT), hN, .nil _, hc, Nat.le_refl _⟩ (Nat.le_refl _) _ h _ fun x st1 ds1 a1 w1 e1 B1 k hs hv1 => ?_
  cases x with
  | ret => exact k.elim
  | exit id => exact k.elim
  | normal =>
  obtain ⟨rfl, L1, hb1, hst1, k⟩ := k
  have hd1 : a1.defers = [] := by have := hs.defs; generalize a1.defers = q at this; cases this; rfl
  have hc1 := hv1.old _ _ hc
  obtain ⟨_, r1, p1, p2, p3, p4, p5, p6, p7, p8⟩ := getLoop_of hs.heap hb1 hc1
  obtain ⟨q1, q2⟩ := hs.heap.setLoop (L' := { L1 with st := .busy }) hb1 hc1 p1 (r' := { r1 with state := .busy }) ⟨rfl, p3, p4, p5, p6, p7, p8⟩
  refine ⟨_, run_beginRound p1 (by rw [p2, hst1]), ?_⟩
  have hv2 := hv1.trans q2
  refine swpX_sound (rd := some c) (cx := some b) (lo := w.heap.size) hm L.cb ac2 h2 B1 e1 _ ⟨st1.tm, st1.heap.set b (.loop { L1 with st := .busy })⟩ [] a1 ⟨q1, fun n => (hs.tm n).evo q2, hs.size, by rw [hd1]; exact .nil _, hc1, Nat.le_trans hs.bd q2.size⟩ (Nat.le_trans hv1.size q2.size) _ k _ fun x st2 ds2 a2 w2 e2 B2 k2 hs2 hv3 => ?_
  obtain ⟨L2, hb2, k2⟩ := k2
  have hv4 := hv2.trans hv3
  cases x with
  | normal => exact fin a2 w2 e2 none st2 L2 hs2.heap hb2 hv4 k2
  | ret => exact fin a2 w2 e2 (some .ret) st2 L2 hs2.heap hb2 hv4 k2
  | exit id => exact fin a2 w2 e2 (some (.exit id)) st2 L2 hs2.heap hb2 hv4 k2

end
end Go.Proofs.Ytooaiddfokbffaa.E

/- Steps of code with ranges over functions, as equations. Conditions: none. -/
set_option linter.unusedVariables false
set_option linter.unusedSimpArgs false
namespace Go.Proofs.Ytooaiddfokbffaa.E
open Go
section
variable {P : Program} {cx : Option Nat} {Q : AExit → ASt → List ADef → Prop} {K : ASt → List ADef → Prop} {st : ASt} {ds : List ADef} {tm : Nat → AV} {H : AHeap}

theorem x_skip : swpX P cx .skip Q st ds = Q .normal st ds := rfl
theorem x_ret : swpX P cx .ret Q st ds = Q .ret st ds := rfl
theorem x_exit (id : Nat) : swpX P cx (.exit id) Q st ds = Q (.exit id) st ds := rfl
theorem x_ops (l : List AI) : swpX P cx (.ops l) Q st ds = swpI P l (fun st => Q .normal st ds) st := rfl
theorem x_draw (l : List DItem) : swpX P cx (.draw l) Q st ds = swpD P [] l (fun st => Q .normal st ds) st := rfl
theorem x_seq (a b : ACode) : swpX P cx (.seq a b) Q st ds = swpX P cx a (thenX (swpX P cx b Q) Q) st ds := rfl
theorem x_block (id : Nat) (b : ACode) : swpX P cx (.block id b) Q st ds = swpX P cx b (inBlockX id Q) st ds := rfl
def condX (P : Program) (cx : Option Nat) (x y : ACode) (Q : AExit → ASt → List ADef → Prop) (st : ASt) (ds : List ADef) : AV → Prop
  | .v (.bool t) => if t = true then swpX P cx x Q st ds else swpX P cx y Q st ds
  | _ => False
theorem x_condQ (c : AArg) (x y : ACode) : swpX P cx (.cond c x y) Q st ds = condX P cx x y Q st ds (c.ev st.tm) := by
  show (match c.ev st.tm with
    | .v (.bool t) => if t = true then swpX P cx x Q st ds else swpX P cx y Q st ds
    | _ => False) = _
  generalize c.ev st.tm = v
  cases v with
  | v u => cases u <;> rfl
  | _ => rfl
theorem xc_true (x y : ACode) : condX P cx x y Q st ds (.v (.bool true)) = swpX P cx x Q st ds := rfl
theorem xc_false (x y : ACode) : condX P cx x y Q st ds (.v (.bool false)) = swpX P cx y Q st ds := rfl
theorem xt_normal : thenX K Q .normal st ds = K st ds := rfl
theorem xt_ret : thenX K Q .ret st ds = Q .ret st ds := rfl
theorem xt_exit {id : Nat} : thenX K Q (.exit id) st ds = Q (.exit id) st ds := rfl
theorem xb_normal {id : Nat} : inBlockX id Q .normal st ds = Q .normal st ds := rfl
theorem xb_exit {id id' : Nat} : inBlockX id Q (.exit id') st ds = if id' = id then Q .normal st ds else Q (.exit id') st ds := rfl
theorem xp_ret {rs : List ARes} {R : AV → AHeap → Prop} : postX rs R .ret st ds = ∃ vs, resAll st rs = some vs ∧ R (packR vs) st.heap := rfl
@[congr] theorem g_swpX (c : ACode) : swpX P cx c Q st ds = swpX P cx c Q st ds := rfl
@[congr] theorem g_thenX (e : AExit) : thenX K Q e st ds = thenX K Q e st ds := rfl
@[congr] theorem g_inBlockX (id : Nat) (e : AExit) : inBlockX id Q e st ds = inBlockX id Q e st ds := rfl
@[congr] theorem g_condX {x y : ACode} {v v' : AV} (h : v = v') : condX P cx x y Q st ds v = condX P cx x y Q st ds v' := by rw [h]
@[congr] theorem g_postX (rs : List ARes) (R : AV → AHeap → Prop) (e : AExit) : postX rs R e st ds = postX rs R e st ds := rfl

/-- A loop over a function. -/
theorem x_rangeF {g : AArg} {ps : Array Tmp} {n : Nat} {ca cb : Code} {a b : ACode} {gf : FuncId} {fs cs : List AV} {R : AV → AHeap → Prop} (hcx : ∀ b0, cx = some b0 → ∃ L0, H.get b0 = some (.loop L0)) (hg : g.ev tm = .fn (.func gf) fs cs)
    (h : SCall P gf (fs ++ (.yld H.next :: cs)) (H.new (.loop ⟨.ready, none, n, tm, ps, ca, cb⟩)) R)
    (hk : ∀ x H2, R x H2 → ∃ L2, H2.get H.next = some (.loop L2) ∧ L2.st ≠ .busy ∧ afterX Q ⟨tm, H2.set H.next (.loop { L2 with st := .exhausted })⟩ (if cx.isNone then .mark :: ds else ds) L2.pend) :
    swpX P cx (.rangeF g ps n ca cb a b) Q ⟨tm, H⟩ ds := ⟨hcx, gf, fs, cs, hg, h.mono fun x H2 hr => hk x H2 hr⟩

/-- A call of yield. -/
theorem i_callY {K : ASt → Prop} {d : Option Nat} {f : AArg} {args : List AArg} {b : Nat} {azs : List AV} {R : AV → AHeap → Prop} (hf : f.ev tm = .yld b) (ha : args.map (·.ev tm) = azs) (h : SVal P (.yld b) azs H R)
    (hk : ∀ x H', R x H' → K ⟨updO tm d x, H'⟩) : stepI P (.call d none f args) ⟨tm, H⟩ K := by
  simp only [stepI, stepV, gOk, if_true]
  subst ha
  rw [hf]
  exact .inr (h.mono hk)

theorem swpX_mono : ∀ (c : ACode) {st : ASt} {ds : List ADef} {Q Q' : AExit → ASt → List ADef → Prop}, swpX P cx c Q st ds → (∀ x st ds, Q x st ds → Q' x st ds) → swpX P cx c Q' st ds
  | .skip, _, _, _, _, h, hq => hq _ _ _ h
  | .ret, _, _, _, _, h, hq => hq _ _ _ h
  | .exit _, _, _, _, _, h, hq => hq _ _ _ h
  | .ops l, _, _, _, _, h, hq => swpI_mono l h fun _ h => hq _ _ _ h
  | .draw l, _, _, _, _, h, hq => swpD_mono l [] h fun _ h => hq _ _ _ h
  | .seq a b, _, _, _, _, h, hq => by
    refine swpX_mono a h fun x st ds h => ?_
    cases x with
    | normal => exact swpX_mono b h hq
    | ret => exact hq _ _ _ h
    | exit id => exact hq _ _ _ h
  | .cond c x y, st, _, _, _, h, hq => by
    simp only [swpX] at h ⊢
    split
    · rename_i t ht
      simp only [ht] at h
      split
      · rename_i hh; rw [if_pos hh] at h; exact swpX_mono x h hq
      · rename_i hh; rw [if_neg hh] at h; exact swpX_mono y h hq
    · rename_i hno
      split at h
      · rename_i t ht; exact absurd ht (hno t)
      · exact h
  | .block id b, _, _, _, _, h, hq => by
    refine swpX_mono b h fun x st ds h => ?_
    cases x with
    | normal => exact hq _ _ _ h
    | ret => exact hq _ _ _ h
    | exit id' =>
      simp only [inBlockX] at h ⊢
      split
      · rename_i hh; rw [if_pos hh] at h; exact hq _ _ _ h
      · rename_i hh; rw [if_neg hh] at h; exact hq _ _ _ h
  | .loop b, st0, ds0, Q, Q', h, hq => by
    obtain ⟨n, hn⟩ := h
    refine ⟨n, ?_⟩
    induction n generalizing st0 ds0 with
    | zero => exact hn
    | succ n ih =>
      obtain ⟨st', h1, h2⟩ := hn
      refine ⟨st', h1, swpX_mono b h2 fun x st ds h => ?_⟩
      cases x with
      | normal => exact ih st ds h
      | ret => exact hq _ _ _ h
      | exit id => exact hq _ _ _ h
  | .rangeF g ps n ca cb a b, st, ds, Q, Q', h, hq => by
    obtain ⟨hcx, gf, fs, cs, h1, h2⟩ := h
    refine ⟨hcx, gf, fs, cs, h1, h2.mono fun x H2 ⟨L2, k1, k2, k3⟩ => ⟨L2, k1, k2, ?_⟩⟩
    cases hp : L2.pend with
    | none => rw [hp] at k3; exact hq _ _ _ k3
    | some c =>
      rw [hp] at k3
      cases c <;> first | exact hq _ _ _ k3 | exact k3.elim

/-- A loop that goes over a row; blocks may be frozen ahead of each round. -/
theorem swpX_range {b : ACode} (n : Nat) (I : Nat → ASt → Prop) {st : ASt} (h0 : I 0 st)
    (hstep : ∀ i st, i < n → I i st → ∃ st', Fz st st' ∧ swpX P cx b (thenX (fun st2 ds2 => ds2 = ds ∧ I (i + 1) st2) Q) st' ds)
    (hend : ∀ st, I n st → ∃ st', Fz st st' ∧ swpX P cx b (thenX (fun _ _ => False) Q) st' ds) : swpX P cx (.loop b) Q st ds := by
  have key : ∀ k i st, i + k = n → I i st → loopX (swpX P cx b) Q (k + 1) st ds := by
    intro k
    induction k with
    | zero =>
      intro i st hi hI
      have : i = n := by omega
      subst this
      obtain ⟨st', h1, h2⟩ := hend st hI
      exact ⟨st', h1, swpX_mono b h2 fun x st ds h => by cases x <;> first | exact h.elim | exact h⟩
    | succ k ih =>
      intro i st hi hI
      obtain ⟨st', h1, h2⟩ := hstep i st (by omega) hI
      exact ⟨st', h1, swpX_mono b h2 fun x st2 ds2 h => by
        cases x with
        | normal => obtain ⟨q1, q2⟩ := h; subst q1; exact ih (i + 1) st2 (by omega) q2
        | ret => exact h
        | exit id => exact h⟩
  exact ⟨n + 1, key n 0 st (by omega) h0⟩

end
end Go.Proofs.Ytooaiddfokbffaa.E

/- The code of tele.bind, over abstract states. Conditions: none. -/
set_option maxRecDepth 100000
set_option linter.unusedVariables false
namespace Go.Proofs.Ytooaiddfokbffaa.E
open Go Go.Proofs
noncomputable def a89 : ACode := (.seq (.ops [(.op (some 12) none (.move (.t 37)))]) (.ops [(.op (some 13) none (.alloc [(.v (.int .i64 0)), (.v (.int .i64 0)), (.v (.bool false)), (.v (.string (ByteArray.mk #[]))), (.v (.slice none 0 0)), (.v (.slice none 0 0))])), (.op none none (.store 6 (.t 13) (.t 38)))]))
noncomputable def b89 : ACode := (.block 1 (.draw [⟨(.op (some 39) none (.load false 1 (.t 4))), []⟩, ⟨(.op (some 40) none (.load false 1 (.t 11))), []⟩, ⟨(.op (some 41) none (.move (.t 12))), []⟩, ⟨(.op (some 43) none (.load true 6 (.t 13))), []⟩, ⟨(.op (some 44) none (.load true 6 (.t 7))), []⟩, ⟨(.call (some 42) none (.t 40) [(.t 41)]), [0, 3, 4]⟩, ⟨(.call (some 45) none (.c (.fn (.func 136) [] [])) [(.t 39), (.t 42), (.t 43), (.t 44)]), []⟩, ⟨(.op none none (.store 6 (.t 7) (.t 45))), []⟩]))
noncomputable def c89 : AFn := ⟨[(.c 8 6 true), (.t 9)], (.seq (.ops [(.op (some 4) none (.box (.t 0))), (.op (some 7) none (.box (.t 3))), (.op (some 8) none (.alloc [(.v (.int .i64 0)), (.v (.int .i64 0)), (.v (.bool false)), (.v (.string (ByteArray.mk #[]))), (.v (.slice none 0 0)), (.v (.slice none 0 0))])), (.op (some 9) none (.move (.c (.v (.int .i64 0)))))]) (.seq (.seq (.ops [(.op (some 15) none (.move (.t 1))), (.op (some 16) none (.len .slice (.t 15))), (.op (some 17) none (.ibin .gtr (.t 16) (.c (.v (.int .i64 60)))))]) (.cond (.t 17) (.seq (.ops [(.op (some 18) none (.build [(.v (.int .i64 0)), (.v (.int .i64 0)), (.v (.bool false)), (.v (.string (ByteArray.mk #[]))), (.v (.slice none 0 0)), (.v (.slice none 0 0))] [])), (.op none none (.store 6 (.t 8) (.t 18))), (.op (some 9) none (.move (.c (.v (.int .i64 2)))))]) .ret) .skip)) (.seq (.seq (.draw [⟨(.op (some 19) none (.move (.t 1))), []⟩, ⟨(.op (some 20) none (.move (.t 1))), []⟩, ⟨(.op (some 21) none (.len .slice (.t 20))), []⟩, ⟨(.op (some 22) none (.move (.t 1))), []⟩, ⟨(.op (some 23) none (.len .slice (.t 22))), []⟩, ⟨(.op (some 24) none (.slice 6 (.t 19) none (some (.t 21)) (some (.t 23)))), []⟩, ⟨(.op (some 25) none (.load true 6 (.t 7))), []⟩, ⟨(.op (some 26) none (.buildS 6 1 [(.v (.int .i64 0)), (.v (.int .i64 0)), (.v (.bool false)), (.v (.string (ByteArray.mk #[]))), (.v (.slice none 0 0)), (.v (.slice none 0 0))] [(0, (6, (.t 25)))])), []⟩, ⟨(.op (some 27) none (.append 6 88 (.t 24) (.t 26))), []⟩, ⟨(.call (some 28) none (.c (.fn (.func 90) [] [])) [(.t 27)]), []⟩, ⟨(.op (some 10) none (.move (.t 28))), []⟩]) (.seq (.ops [(.op (some 29) none (.move (.t 10))), (.op (some 30) none (.ibin .neq (.t 29) (.c (.v (.int .i64 0)))))]) (.cond (.t 30) (.seq (.ops [(.op (some 31) none (.build [(.v (.int .i64 0)), (.v (.int .i64 0)), (.v (.bool false)), (.v (.string (ByteArray.mk #[]))), (.v (.slice none 0 0)), (.v (.slice none 0 0))] [])), (.op (some 32) none (.move (.t 10))), (.op none none (.store 6 (.t 8) (.t 31))), (.op (some 9) none (.move (.t 32)))]) .ret) .skip))) (.seq (.ops [(.op (some 33) none (.move (.t 2))), (.call (some 34) none (.c (.fn (.func 91) [] [])) [(.t 33)]), (.op (some 11) none (.alloc [(.v .nilFunc)])), (.op none none (.store 1 (.t 11) (.t 34)))]) (.seq (.seq (.ops [(.op (some 35) none (.move (.t 1))), (.call (some 36) none (.c (.fn (.func 135) [] [])) [(.t 35)])]) (.block 0 (.rangeF (.t 36) #[37, 38] 54 (rfA Try.prog 89 0) (rfB Try.prog 89 0) a89 b89))) (.seq (.seq (.ops [(.op (some 46) none (.load true 6 (.t 7))), (.call (some 47) none (.c (.fn (.func 24) [] [])) [(.t 46)]), (.op (some 14) none (.move (.t 47)))]) (.seq (.ops [(.op (some 48) none (.move (.t 14))), (.op (some 49) none (.ibin .neq (.t 48) (.c (.v (.int .i64 0)))))]) (.cond (.t 49) (.seq (.ops [(.op (some 50) none (.build [(.v (.int .i64 0)), (.v (.int .i64 0)), (.v (.bool false)), (.v (.string (ByteArray.mk #[]))), (.v (.slice none 0 0)), (.v (.slice none 0 0))] [])), (.op (some 51) none (.move (.t 14))), (.op none none (.store 6 (.t 8) (.t 50))), (.op (some 9) none (.move (.t 51)))]) .ret) .skip))) (.seq (.ops [(.op (some 52) none (.load true 6 (.t 7))), (.call (some 53) none (.c (.fn (.func 76) [] [])) [(.t 52)]), (.op none none (.store 6 (.t 8) (.t 53))), (.op (some 9) none (.move (.c (.v (.int .i64 0)))))]) .ret)))))))⟩
def pl89 : List (Nat × List (Nat × List Nat)) := [(3, [(0, []), (1, []), (2, []), (3, []), (4, []), (5, []), (6, []), (7, []), (8, []), (9, []), (10, [])]), (10, [(0, []), (1, []), (2, []), (4, []), (5, []), (3, [0, 3, 4]), (6, []), (7, [])])]
theorem cf89 : compFn Try.prog 89 pl89 = some c89 := by kernel_rfl
theorem ca89 : compCode Try.prog 54 pl89 (rfA Try.prog 89 0) = some a89 := by kernel_rfl
theorem cb89 : compCode Try.prog 54 pl89 (rfB Try.prog 89 0) = some b89 := by kernel_rfl
end Go.Proofs.Ytooaiddfokbffaa.E

/- The iterator of tele's bind (function 175): it hands over a row from its end. Conditions: none. -/
set_option linter.unusedVariables false
set_option linter.unusedSimpArgs false
namespace Go.Proofs.Ytooaiddfokbffaa.E
open Go Go.Proofs
attribute [local go_sem] s_seq s_ops s_draw s_block s_skip s_ret s_exit i_nil i_cons i_run i_runG s_condQ c_true c_false aop ev_t ev_c updO_at updO_no upd_at t_normal t_ret t_exit b_normal b_ret b_exit a_some ac_v ac_agg ac_ptr ac_slc ac_ro ac_rop ac_fn new_next set_next argTm_zero argTm_succ argTm_nil ab_bool ab_uv beq_self_eq_true Option.some_beq_some Bool.not_not beq_iff_eq decide_true decide_false Bool.not_true Bool.not_false afld aload astore apack alen_str alen_ro alen_slc alen_nil new_get set_get ite_true ite_false Option.map_some Option.bind_some ibin isShift Nat.add_zero Nat.zero_add List.length_cons List.length_nil List.drop_zero List.drop_succ_cons List.take_succ_cons List.take_zero if_true if_false setL List.set_cons_zero List.set_cons_succ List.all_cons List.all_nil one_int one_bool one_str one_nil one_ptr one_slc one_ro one_rop one_fn Bool.and_self Bool.and_true true_and and_true and_self Bool.false_eq_true post_ret post_normal resAll resOne packR Option.some.injEq exists_eq_left' List.map_cons List.map_nil List.nil_append List.append_nil List.cons_append d_nil d_cons k_nil k_cons g_op g_same g_new avBlock forall_eq' List.getElem?_cons_succ List.getElem?_cons_zero List.getElem?_nil okind gOk bne false_imp_iff forall_const imp_self implies_true true_imp_iff i_callG

set_option maxRecDepth 100000 in
theorem iter175 {ks : List Tm} {x : AV} {H0 : AHeap} (hx : RowAt ks x H0) (hn : ks.length ≤ 1000) (b bx : Nat) (I : Nat → AHeap → Prop) (hI : ∀ i G, I i G → Ext H0 G ∧ G.get bx = some (.cells [x]))
    (hstep : ∀ i (hi : i < ks.length) G c, I (i + 1) G → TmP ks[i] c → SVal Try.prog (.yld b) [aint i, .agg c] G (fun r G' => r = abl true ∧ I i G')) (H : AHeap) (h0 : I ks.length H) :
    SCall Try.prog 175 [.yld b, .ptr bx 0] H fun _ H' => I 0 H' := by
  obtain ⟨hE0, hg0⟩ := hI _ _ h0
  have w0 : IntKind.i64.wrap ((ks.length : Int) - 1) = (ks.length : Int) - 1 := i64_ok _ (by omega)
  have hlen := hx.len
  refine SCall.intro mixed cf175 ?_
  simp -implicitDefEqProofs only [c175, go_sem, Nat.reduceEqDiff, Nat.reduceAdd, Nat.reduceLeDiff, ↓reduceIte, reduceCtorEq, Int.reduceBEq, Int.reduceBNe, Int.reduceLT, Int.reduceLE, Int.reduceGT, Int.reduceGE, Int.reduceNeg, Int.reduceAdd, Int.reduceSub, Nat.reduceMul, Nat.reduceLT, Int.reduceToNat, hg0, hlen, w0, hx.one, hx.cells]
  refine swp_loop (fun k st => k ≤ ks.length ∧ st.tm 0 = .yld b ∧ st.tm 1 = .ptr bx 0 ∧ st.tm 3 = aint ((k : Int) - 1) ∧ I k st.heap) (k := ks.length) ?_ ?_
  · exact ⟨Nat.le_refl _, rfl, rfl, rfl, h0⟩
  · rintro k ⟨tm, G⟩ ⟨hk, t0, t1, t3, hG⟩
    simp only at t0 t1 t3 hG
    obtain ⟨hE, hg⟩ := hI _ _ hG
    cases k with
    | zero =>
      have hneg : ¬ ((((0 : Nat) : Int)) - 1 ≥ 0) := by omega
      simp -implicitDefEqProofs only [go_sem, Nat.reduceEqDiff, Nat.reduceAdd, Nat.reduceLeDiff, ↓reduceIte, reduceCtorEq, Int.reduceBEq, Int.reduceBNe, Int.reduceLT, Int.reduceLE, Int.reduceGT, Int.reduceGE, Int.reduceNeg, Int.reduceAdd, Int.reduceSub, Nat.reduceMul, Nat.reduceLT, Int.reduceToNat, t0, t1, t3, hneg]
      exact hG
    | succ i =>
      have hi : i < ks.length := by omega
      have hii : (((i + 1 : Nat) : Int)) - 1 = (i : Int) := by omega
      have w3 : IntKind.i64.wrap ((i : Int) - 1) = (i : Int) - 1 := i64_ok _ (by omega)
      have hpos' : ((i : Int) ≥ 0) = True := by simp
      obtain ⟨p, hp, hl⟩ := hx.elt i hi
      obtain ⟨c, hc, hT⟩ := hl G hE
      rw [hii] at t3
      have hc' := hc
      simp only [aload] at hc'
      simp -implicitDefEqProofs only [go_sem, Nat.reduceEqDiff, Nat.reduceAdd, Nat.reduceLeDiff, ↓reduceIte, reduceCtorEq, Int.reduceBEq, Int.reduceBNe, Int.reduceLT, Int.reduceLE, Int.reduceGT, Int.reduceGE, Int.reduceNeg, Int.reduceAdd, Int.reduceSub, Nat.reduceMul, Nat.reduceLT, Int.reduceToNat, t0, t1, t3, hpos', hg, hp, hc', hx.one, hx.cells]
      refine i_callY (b := b) ?_ ?_ (hstep i hi G c hG hT) ?_
      · rfl
      · simp -implicitDefEqProofs only [go_sem, Nat.reduceEqDiff, Nat.reduceAdd, Nat.reduceLeDiff, ↓reduceIte, reduceCtorEq, Int.reduceBEq, Int.reduceBNe, Int.reduceLT, Int.reduceLE, Int.reduceGT, Int.reduceGE, Int.reduceNeg, Int.reduceAdd, Int.reduceSub, Nat.reduceMul, Nat.reduceLT, Int.reduceToNat]
      rintro r G' ⟨rfl, hG'⟩
      simp -implicitDefEqProofs only [go_sem, Nat.reduceEqDiff, Nat.reduceAdd, Nat.reduceLeDiff, ↓reduceIte, reduceCtorEq, Int.reduceBEq, Int.reduceBNe, Int.reduceLT, Int.reduceLE, Int.reduceGT, Int.reduceGE, Int.reduceNeg, Int.reduceAdd, Int.reduceSub, Nat.reduceMul, Nat.reduceLT, Int.reduceToNat, t0, t1, t3, w3]
      exact ⟨i, by omega, by omega, rfl, hG'⟩
end Go.Proofs.Ytooaiddfokbffaa.E

/- A round of tele's bind. Conditions: none. -/
set_option linter.unusedVariables false
set_option linter.unusedSimpArgs false
namespace Go.Proofs.Ytooaiddfokbffaa.E
open Go Go.Proofs
attribute [local go_sem] s_seq s_ops s_draw s_block s_skip s_ret s_exit i_nil i_cons i_run i_runG s_condQ c_true c_false aop ev_t ev_c updO_at updO_no upd_at t_normal t_ret t_exit b_normal b_ret b_exit a_some ac_v ac_agg ac_ptr ac_slc ac_ro ac_rop ac_fn new_next set_next argTm_zero argTm_succ argTm_nil ab_bool ab_uv beq_self_eq_true Option.some_beq_some Bool.not_not beq_iff_eq decide_true decide_false Bool.not_true Bool.not_false afld aload astore apack alen_str alen_ro alen_slc alen_nil new_get set_get ite_true ite_false Option.map_some Option.bind_some ibin isShift Nat.add_zero Nat.zero_add List.length_cons List.length_nil List.drop_zero List.drop_succ_cons List.take_succ_cons List.take_zero if_true if_false setL List.set_cons_zero List.set_cons_succ List.all_cons List.all_nil one_int one_bool one_str one_nil one_ptr one_slc one_ro one_rop one_fn Bool.and_self Bool.and_true true_and and_true and_self Bool.false_eq_true post_ret post_normal resAll resOne packR Option.some.injEq exists_eq_left' List.map_cons List.map_nil List.nil_append List.append_nil List.cons_append d_nil d_cons k_nil k_cons g_op g_same g_new avBlock forall_eq' List.getElem?_cons_succ List.getElem?_cons_zero List.getElem?_nil okind gOk bne false_imp_iff forall_const imp_self implies_true true_imp_iff i_callG

/-- The record of bind's loop. -/
noncomputable def bindL (tm : Nat → AV) : ALoop := ⟨.ready, none, 54, tm, #[37, 38], rfA Try.prog 89 0, rfB Try.prog 89 0⟩

/-- What holds behind the rounds down to i. -/
def BindI (H0 : AHeap) (n : Nat) (f : Int) (hs : List Bool) (ks : List Tm) (t : Tm) (x y : AV) (tm : Nat → AV) (i : Nat) (G : AHeap) : Prop :=
  Ext H0 G ∧ n + 9 ≤ G.next ∧ G.get n = some (.cells [aint f]) ∧ (∃ c, G.get (n + 1) = some (.cells c) ∧ TmP (telT f hs i (ks.drop i) t) c) ∧ G.get (n + 2) = some (.cells z6) ∧ G.get (n + 5) = some (.cells [y]) ∧
  G.get (n + 6) = some (.cells [.fn (.func 137) [] [.ptr (n + 5) 0]]) ∧ G.get (n + 7) = some (.cells [x]) ∧ G.get (n + 8) = some (.loop (bindL tm))

set_option maxRecDepth 100000 in
theorem bind_round {H0 : AHeap} {n : Nat} (hn : H0.next ≤ n) {f : Int} {hs : List Bool} {ks : List Tm} {t : Tm} {x y : AV} {tm : Nat → AV} (hy : HidR hs y) (h4 : tm 4 = .ptr n 0) (h7 : tm 7 = .ptr (n + 1) 0) (h11 : tm 11 = .ptr (n + 6) 0)
    (i : Nat) (hi : i < ks.length) (hlim : ks.length ≤ 1000) (G : AHeap) (c : List AV) (hG : BindI H0 n f hs ks t x y tm (i + 1) G) (hT : TmP ks[i] c) :
    SVal Try.prog (.yld (n + 8)) [aint i, .agg c] G (fun r G' => r = abl true ∧ BindI H0 n f hs ks t x y tm i G') := by
  obtain ⟨hE, hnx, g0, ⟨d, g1, hd⟩, g2, g5, g6, g7, g8⟩ := hG
  obtain ⟨lx, kx, hc6, p1, p2, p3, p4, p5, p6, p7, p8⟩ := hT.six
  obtain ⟨ly, ky, hd6, q1, q2, q3, q4, q5, q6, q7, q8⟩ := hd.six
  subst hc6 hd6
  refine SVal.yld mixed g8 (by simp [bindL]) (by simp [bindL]) ca89 cb89 ?_
  have hps : (bindL tm).ps.toList = [37, 38] := rfl
  have htm : (bindL tm).tm = tm := rfl
  have m8 : ¬ n + 8 = G.next := by omega
  have m8' : ¬ G.next = n + 8 := by omega
  have m0 : ¬ n = G.next := by omega
  have m1 : ¬ n + 1 = G.next := by omega
  have m5 : ¬ n + 5 = G.next := by omega
  have m6 : ¬ n + 6 = G.next := by omega
  have e0 : ¬ n = n + 8 := by omega
  have e1 : ¬ n + 1 = n + 8 := by omega
  have e5 : ¬ n + 5 = n + 8 := by omega
  have e6 : ¬ n + 6 = n + 8 := by omega
  rw [hps, htm]
  simp -implicitDefEqProofs only [a89, b89, go_sem, Nat.reduceEqDiff, Nat.reduceAdd, Nat.reduceLeDiff, ↓reduceIte, reduceCtorEq, Int.reduceBEq, Int.reduceBNe, Int.reduceLT, Int.reduceLE, Int.reduceGT, Int.reduceGE, Int.reduceNeg, Int.reduceAdd, Int.reduceSub, Nat.reduceMul, Nat.reduceLT, Int.reduceToNat, setPs, x_seq, x_ops, x_draw, x_block, xt_normal, xb_normal, h4, h7, h11, p1, p2, p3, p4, bodyQ, m8, m8', m0, m1, m5, m6, e0, e1, e5, e6, g0, g1, g5, g6, g8]
  refine ⟨_, rfl, rfl, ?_⟩
  refine i_callA (fs := []) (cs := [.ptr (n + 5) 0]) (fid := 137) ?_ ?_ (hidden1_ok hs y hy i (by omega) (n + 5) _ ?_) ?_
  · rfl
  · simp -implicitDefEqProofs only [go_sem, Nat.reduceEqDiff, Nat.reduceAdd, Nat.reduceLeDiff, ↓reduceIte, reduceCtorEq, Int.reduceBEq, Int.reduceBNe, Int.reduceLT, Int.reduceLE, Int.reduceGT, Int.reduceGE, Int.reduceNeg, Int.reduceAdd, Int.reduceSub, Nat.reduceMul, Nat.reduceLT, Int.reduceToNat]
  · simp -implicitDefEqProofs only [go_sem, Nat.reduceEqDiff, Nat.reduceAdd, Nat.reduceLeDiff, ↓reduceIte, reduceCtorEq, Int.reduceBEq, Int.reduceBNe, Int.reduceLT, Int.reduceLE, Int.reduceGT, Int.reduceGE, Int.reduceNeg, Int.reduceAdd, Int.reduceSub, Nat.reduceMul, Nat.reduceLT, Int.reduceToNat, m5, e5, g5]
  rintro r G1 ⟨rfl, hHH⟩
  have hHH := hHH.symm
  subst hHH
  simp -implicitDefEqProofs only [go_sem, Nat.reduceEqDiff, Nat.reduceAdd, Nat.reduceLeDiff, ↓reduceIte, reduceCtorEq, Int.reduceBEq, Int.reduceBNe, Int.reduceLT, Int.reduceLE, Int.reduceGT, Int.reduceGE, Int.reduceNeg, Int.reduceAdd, Int.reduceSub, Nat.reduceMul, Nat.reduceLT, Int.reduceToNat, xt_normal, xb_normal, h4, h7, h11, p1, p2, p3, p4, m8, m8', m0, m1, m5, m6, e0, e1, e5, e6, g0, g1, g5, g6, g8]
  refine i_callA (fs := []) (cs := []) (fid := 136) ?_ ?_ (node_ok f (hidF hs i) ks[i] (telT f hs (i + 1) (ks.drop (i + 1)) t) _ _ hT hd _) ?_
  · rfl
  · simp -implicitDefEqProofs only [go_sem, Nat.reduceEqDiff, Nat.reduceAdd, Nat.reduceLeDiff, ↓reduceIte, reduceCtorEq, Int.reduceBEq, Int.reduceBNe, Int.reduceLT, Int.reduceLE, Int.reduceGT, Int.reduceGE, Int.reduceNeg, Int.reduceAdd, Int.reduceSub, Nat.reduceMul, Nat.reduceLT, Int.reduceToNat]
  rintro r G1 ⟨⟨c, rfl, hc⟩, hHH⟩
  have hHH := hHH.symm
  subst hHH
  obtain ⟨lz, kz, hc6, r1, r2, r3, r4, r5, r6, r7, r8⟩ := hc.six
  subst hc6
  have n8 : ¬ n + 8 = n + 1 := by omega
  simp -implicitDefEqProofs only [go_sem, Nat.reduceEqDiff, Nat.reduceAdd, Nat.reduceLeDiff, ↓reduceIte, reduceCtorEq, Int.reduceBEq, Int.reduceBNe, Int.reduceLT, Int.reduceLE, Int.reduceGT, Int.reduceGE, Int.reduceNeg, Int.reduceAdd, Int.reduceSub, Nat.reduceMul, Nat.reduceLT, Int.reduceToNat, xt_normal, xb_normal, h4, h7, h11, r1, r2, r3, r4, m8, m8', m0, m1, m5, m6, e0, e1, e5, e6, g0, g1, g5, g6, g8, n8, roundQ]
  have hlt0 := hE.1
  have hc' := hc
  rw [← telT_drop f hs t hi] at hc'
  have k8 : ∀ j, j < 9 → ¬ n + j = G.next := fun j hj => by omega
  have kk : ∀ j k, j ≠ k → ¬ n + j = n + k := fun j k hj => by omega
  refine ⟨_, rfl, (((((hE.new _).set (by omega) _).set (by omega) _).set (by omega) _).set (by omega) _), ?_, ?_, ⟨_, ?_, hc'⟩, ?_, ?_, ?_, ?_, ?_⟩
  · simp only [set_next, new_next]; omega
  · simp only [set_get, new_get]
    rw [if_neg e0, if_neg (by omega), if_neg e0, if_neg m0, if_neg m0]; exact g0
  · simp only [set_get, new_get]
    rw [if_neg e1, if_pos trivial, telT_drop f hs t hi]
  · simp only [set_get, new_get]
    rw [if_neg (kk 2 8 (by omega)), if_neg (kk 2 1 (by omega)), if_neg (kk 2 8 (by omega)), if_neg (k8 2 (by omega)), if_neg (k8 2 (by omega))]; exact g2
  · simp only [set_get, new_get]
    rw [if_neg (kk 5 8 (by omega)), if_neg (kk 5 1 (by omega)), if_neg (kk 5 8 (by omega)), if_neg (k8 5 (by omega)), if_neg (k8 5 (by omega))]; exact g5
  · simp only [set_get, new_get]
    rw [if_neg (kk 6 8 (by omega)), if_neg (kk 6 1 (by omega)), if_neg (kk 6 8 (by omega)), if_neg (k8 6 (by omega)), if_neg (k8 6 (by omega))]; exact g6
  · simp only [set_get, new_get]
    rw [if_neg (kk 7 8 (by omega)), if_neg (kk 7 1 (by omega)), if_neg (kk 7 8 (by omega)), if_neg (k8 7 (by omega)), if_neg (k8 7 (by omega))]; exact g7
  · simp only [set_get, new_get]
    rw [if_pos trivial]
    rfl

/-- The loop of bind, whole. -/
theorem bind_loop {Q : AExit → ASt → List ADef → Prop} {H0 : AHeap} {n : Nat} (hn : H0.next ≤ n) {f : Int} {hs : List Bool} {ks : List Tm} {t : Tm} {x y : AV} (hx : RowAt ks x H0) (hy : HidR hs y) (hlim : ks.length ≤ 1000) (tm : Nat → AV) (G : AHeap)
    (h4 : tm 4 = .ptr n 0) (h7 : tm 7 = .ptr (n + 1) 0) (h11 : tm 11 = .ptr (n + 6) 0) (h36 : tm 36 = .fn (.func 175) [] [.ptr (n + 7) 0]) (hE : Ext H0 G) (hnx : G.next = n + 8)
    (g0 : G.get n = some (.cells [aint f])) (g1 : ∃ c, G.get (n + 1) = some (.cells c) ∧ TmP t c) (g2 : G.get (n + 2) = some (.cells z6)) (g5 : G.get (n + 5) = some (.cells [y]))
    (g6 : G.get (n + 6) = some (.cells [.fn (.func 137) [] [.ptr (n + 5) 0]])) (g7 : G.get (n + 7) = some (.cells [x]))
    (hk : ∀ G2, BindI H0 n f hs ks t x y tm 0 G2 → Q .normal ⟨tm, G2.set (n + 8) (.loop { bindL tm with st := .exhausted })⟩ [.mark]) :
    swpX Try.prog none (.rangeF (.t 36) #[37, 38] 54 (rfA Try.prog 89 0) (rfB Try.prog 89 0) a89 b89) Q ⟨tm, G⟩ [] := by
  obtain ⟨c, g1, hc⟩ := g1
  refine x_rangeF (gf := 175) (fs := []) (cs := [.ptr (n + 7) 0]) (R := fun _ H2 => BindI H0 n f hs ks t x y tm 0 H2) (fun b0 h => by cases h) h36 ?_ ?_
  · rw [hnx]
    refine iter175 hx hlim (n + 8) (n + 7) (BindI H0 n f hs ks t x y tm) (fun i G hG => ⟨hG.1, hG.2.2.2.2.2.2.2.1⟩) (fun i hi G c hG hT => bind_round hn hy h4 h7 h11 i hi hlim G c hG hT) _ ?_
    refine ⟨hE.new _, by rw [new_next]; omega, ?_, ⟨c, ?_, ?_⟩, ?_, ?_, ?_, ?_, ?_⟩
    · rw [new_get, if_neg (by omega)]; exact g0
    · rw [new_get, if_neg (by omega)]; exact g1
    · rw [telT_end]; exact hc
    · rw [new_get, if_neg (by omega)]; exact g2
    · rw [new_get, if_neg (by omega)]; exact g5
    · rw [new_get, if_neg (by omega)]; exact g6
    · rw [new_get, if_neg (by omega)]; exact g7
    · rw [new_get, if_pos hnx.symm]; rfl
  · rintro _ H2 hB
    rw [hnx]
    exact ⟨bindL tm, hB.2.2.2.2.2.2.2.2, by simp [bindL], hk H2 hB⟩
end Go.Proofs.Ytooaiddfokbffaa.E

/- tele.bind. Conditions: none. -/
set_option linter.unusedVariables false
set_option linter.unusedSimpArgs false
namespace Go.Proofs.Ytooaiddfokbffaa.E
open Go Go.Proofs
attribute [local go_sem] s_seq s_ops s_draw s_block s_skip s_ret s_exit i_nil i_cons i_run i_runG s_condQ c_true c_false aop ev_t ev_c updO_at updO_no upd_at t_normal t_ret t_exit b_normal b_ret b_exit a_some ac_v ac_agg ac_ptr ac_slc ac_ro ac_rop ac_fn new_next set_next argTm_zero argTm_succ argTm_nil ab_bool ab_uv beq_self_eq_true Option.some_beq_some Bool.not_not beq_iff_eq decide_true decide_false Bool.not_true Bool.not_false afld aload astore apack alen_str alen_ro alen_slc alen_nil new_get set_get ite_true ite_false Option.map_some Option.bind_some ibin isShift Nat.add_zero Nat.zero_add List.length_cons List.length_nil List.drop_zero List.drop_succ_cons List.take_succ_cons List.take_zero if_true if_false setL List.set_cons_zero List.set_cons_succ List.all_cons List.all_nil one_int one_bool one_str one_nil one_ptr one_slc one_ro one_rop one_fn Bool.and_self Bool.and_true true_and and_true and_self Bool.false_eq_true post_ret post_normal resAll resOne packR Option.some.injEq exists_eq_left' List.map_cons List.map_nil List.nil_append List.append_nil List.cons_append d_nil d_cons k_nil k_cons g_op g_same g_new avBlock forall_eq' List.getElem?_cons_succ List.getElem?_cons_zero List.getElem?_nil okind gOk bne false_imp_iff forall_const imp_self implies_true true_imp_iff i_callG

theorem allL_snoc {p : Tm → Prop} : ∀ {ks : List Tm} {t : Tm}, Tm.AllL p ks → Tm.All p t → Tm.AllL p (ks ++ [t])
  | [], t, _, h => ⟨h, trivial⟩
  | k :: r, t, ⟨h1, h2⟩, h => ⟨h1, allL_snoc h2 h⟩

theorem telT_b {f : Int} (hf : Rng f) {hs : List Bool} : ∀ {ks : List Tm} {i : Nat} {t : Tm}, Tm.AllL TmB ks → Tm.All TmB t → Tm.All TmB (telT f hs i ks t)
  | [], i, t, _, h => h
  | k :: r, i, t, ⟨h1, h2⟩, h => by
    simp only [telT, Tm.All, Tm.AllL]
    exact ⟨⟨hf, by simp [Rng, Tm.n], by simp [Tm.name, zeroS]; decide, by simp [Tm.lv], by simp [Tm.kids], by simp [Tm.lv]⟩, h1, telT_b hf h2 h, trivial⟩

/-- What bind answers. -/
def BindR (f : Int) (hs : List Bool) (ks : List Tm) (t : Tm) (r : AV) : Prop := ∃ c e u, r = .tup [.agg c, aint e] ∧ TmP u c ∧
  ((ks.length ≤ 60 ∧ askF (ks ++ [t]) = 0 ∧ checkF canF (telT f hs 0 ks t) = 0) → e = 0) ∧ (e = 0 → ks.length ≤ 60 ∧ askF (ks ++ [t]) = 0 ∧ checkF canF (telT f hs 0 ks t) = 0 ∧ u = cleanT (telT f hs 0 ks t))

set_option maxRecDepth 100000 in
theorem bind_ok (f : Int) (hs : List Bool) (ks : List Tm) (t : Tm) (hfr : Rng f) (hkb : Tm.AllL TmB ks) (htb : Tm.All TmB t) (hn : ks.length ≤ 4611686018427387904) (x y : AV) (tc : List AV) (H : AHeap) (hx : RowAt ks x H) (hy : HidR hs y) (hT : TmP t tc) :
    SCall Try.prog 89 [aint f, x, y, .agg tc] H fun r H' => BindR f hs ks t r ∧ H' = H := by
  obtain ⟨lx, kx, hc6, p1, p2, p3, p4, p5, p6, p7, p8⟩ := hT.six
  subst hc6
  have hxl := hx.len
  have e0 : ∀ j, ¬ H.next = H.next + (j + 1) := fun j => by omega
  have e1 : ∀ j, ¬ H.next + (j + 1) = H.next := fun j => by omega
  have e2 : ∀ j k, (H.next + j = H.next + k) = (j = k) := fun j k => by simp
  have e3 : (H.next = H.next + 1) = False := by simp
  have e4 : (H.next = H.next + 2) = False := by simp
  have e5 : (H.next = H.next + 3) = False := by simp
  have e6 : (H.next = H.next + 4) = False := by simp
  have e7 : (H.next = H.next + 5) = False := by simp
  have e8 : (H.next = H.next + 6) = False := by simp
  have e9 : (H.next = H.next + 8) = False := by simp
  have e10 : (H.next = H.next + 7) = False := by simp
  have hold : ∀ {c : List AV} {u : Tm}, TmP u c → ∀ e : Int, Old H.next (.tup [.agg c, aint e]) := fun hc e => .tup _ fun y hy => by
    simp at hy
    rcases hy with rfl | rfl
    · exact .agg _ fun z hz => (hc.2 z hz).mono (Nat.zero_le _)
    · exact .v _
  refine SCall.frz (R := fun r H' => Ext H H' ∧ BindR f hs ks t r) (SCall.introX mixed cf89 ?_) ?_
  · by_cases hlen : (ks.length : Int) > 60
    · simp -implicitDefEqProofs only [c89, go_sem, Nat.reduceEqDiff, Nat.reduceAdd, Nat.reduceLeDiff, ↓reduceIte, reduceCtorEq, Int.reduceBEq, Int.reduceBNe, Int.reduceLT, Int.reduceLE, Int.reduceGT, Int.reduceGE, Int.reduceNeg, Int.reduceAdd, Int.reduceSub, Nat.reduceMul, Nat.reduceLT, Int.reduceToNat, x_seq, x_ops, x_draw, x_block, x_condQ, x_ret, x_skip, xc_true, xc_false, xt_normal, xt_ret, xb_normal, xp_ret, p1, p2, p3, p4, hxl, hx.one, hx.cells, hlen, e2, e3, e4, e5, e6, Nat.add_assoc, Nat.succ_ne_self, afill]
      exact ⟨((((Ext.refl H).new _).new _).new _).set (by omega) _, _, 2, zeroTm, rfl, tmp_zero, fun h => by omega, fun h => by omega⟩
    · have hn60 : ks.length ≤ 60 := by omega
      have hnn : (0 : Int) ≤ (ks.length : Int) := by omega
      obtain ⟨y', hsl, ha⟩ := hx.app (by omega)
      obtain ⟨l, happ, hX⟩ := ha ((((H.new (.cells [aint f])).new (.cells [aint t.form, aint t.n, abl t.hid, .v (.string t.name), lx, kx])).new (.cells z6)).new (.cells [aint t.form, aint t.n, abl t.hid, .v (.string t.name), lx, kx])) (H.next + 3) t _ (((((Ext.refl H).new _).new _).new _).new _) hT (by rw [new_get]; exact if_pos rfl)
      simp only [new_next, Nat.add_assoc, Nat.reduceAdd] at happ
      simp -implicitDefEqProofs only [c89, go_sem, Nat.reduceEqDiff, Nat.reduceAdd, Nat.reduceLeDiff, ↓reduceIte, reduceCtorEq, Int.reduceBEq, Int.reduceBNe, Int.reduceLT, Int.reduceLE, Int.reduceGT, Int.reduceGE, Int.reduceNeg, Int.reduceAdd, Int.reduceSub, Nat.reduceMul, Nat.reduceLT, Int.reduceToNat, x_seq, x_ops, x_draw, x_block, x_condQ, x_ret, x_skip, xc_true, xc_false, xt_normal, xt_ret, xb_normal, xp_ret, p1, p2, p3, p4, hxl, hx.one, hx.cells, hlen, e2, e3, e4, e5, e6, Nat.add_assoc, afill, anat, Option.map_none, Int.toNat_natCast, hnn, hsl, happ]
      have hab : Tm.AllL TmB (ks ++ [t]) := allL_snoc hkb htb
      have hll : (ks ++ [t]).length = ks.length + 1 := by simp
      refine i_callA (fs := []) (cs := []) (fid := 90) ?_ ?_ (SCall.gives (b := H.next + 4) (l := l) ?_ (.cons (.slc 0 6 (ks.length + 1) (ks.length + 1) false l (by simp) (by simp)) .nil) (ask_ok (ks ++ [t]) hab _ l (.inr ⟨_, _, by rw [hll], by omega⟩) hX.rel (by omega) _)) ?_
      · rfl
      · simp -implicitDefEqProofs only [go_sem, Nat.reduceEqDiff, Nat.reduceAdd, Nat.reduceLeDiff, ↓reduceIte, reduceCtorEq, Int.reduceBEq, Int.reduceBNe, Int.reduceLT, Int.reduceLE, Int.reduceGT, Int.reduceGE, Int.reduceNeg, Int.reduceAdd, Int.reduceSub, Nat.reduceMul, Nat.reduceLT, Int.reduceToNat]
      · simp -implicitDefEqProofs only [go_sem, Nat.reduceEqDiff, Nat.reduceAdd, Nat.reduceLeDiff, ↓reduceIte, reduceCtorEq, Int.reduceBEq, Int.reduceBNe, Int.reduceLT, Int.reduceLE, Int.reduceGT, Int.reduceGE, Int.reduceNeg, Int.reduceAdd, Int.reduceSub, Nat.reduceMul, Nat.reduceLT, Int.reduceToNat, Nat.add_assoc]
      rintro r G1 ⟨rfl, hHH⟩
      have hHH := hHH.symm
      subst hHH
      have hEa : Ext H (((((H.new (.cells [aint f])).new (.cells [aint t.form, aint t.n, abl t.hid, .v (.string t.name), lx, kx])).new (.cells z6)).new (.cells [aint t.form, aint t.n, abl t.hid, .v (.string t.name), lx, kx])).new (.cells l) |>.kill (H.next + 4)) := ((((((Ext.refl H).new _).new _).new _).new _).new _).kill (by omega)
      by_cases hask : askF (ks ++ [t]) = 0
      case neg =>
        simp -implicitDefEqProofs only [go_sem, Nat.reduceEqDiff, Nat.reduceAdd, Nat.reduceLeDiff, ↓reduceIte, reduceCtorEq, Int.reduceBEq, Int.reduceBNe, Int.reduceLT, Int.reduceLE, Int.reduceGT, Int.reduceGE, Int.reduceNeg, Int.reduceAdd, Int.reduceSub, Nat.reduceMul, Nat.reduceLT, Int.reduceToNat, x_seq, x_ops, x_draw, x_block, x_condQ, x_ret, x_skip, xc_true, xc_false, xt_normal, xt_ret, xb_normal, xp_ret, bne' hask, kill_get, e2, e3, e4, e5, e6, Nat.add_assoc, afill]
        exact ⟨hEa.set (by omega) _, _, _, zeroTm, rfl, tmp_zero, fun h => absurd h.2.1 hask, fun h => absurd h hask⟩
      rw [hask]
      simp -implicitDefEqProofs only [go_sem, Nat.reduceEqDiff, Nat.reduceAdd, Nat.reduceLeDiff, ↓reduceIte, reduceCtorEq, Int.reduceBEq, Int.reduceBNe, Int.reduceLT, Int.reduceLE, Int.reduceGT, Int.reduceGE, Int.reduceNeg, Int.reduceAdd, Int.reduceSub, Nat.reduceMul, Nat.reduceLT, Int.reduceToNat, x_seq, x_ops, x_draw, x_block, x_condQ, x_ret, x_skip, xc_true, xc_false, xt_normal, xt_ret, xb_normal, xp_ret, kill_get, e2, e3, e4, e5, e6, Nat.add_assoc, afill]
      have hnx : ((((((H.new (.cells [aint f])).new (.cells [aint t.form, aint t.n, abl t.hid, .v (.string t.name), lx, kx])).new (.cells z6)).new (.cells [aint t.form, aint t.n, abl t.hid, .v (.string t.name), lx, kx])).new (.cells l)).kill (H.next + 4)).next = H.next + 5 := rfl
      have g0 : ((((((H.new (.cells [aint f])).new (.cells [aint t.form, aint t.n, abl t.hid, .v (.string t.name), lx, kx])).new (.cells z6)).new (.cells [aint t.form, aint t.n, abl t.hid, .v (.string t.name), lx, kx])).new (.cells l)).kill (H.next + 4)).get H.next = some (.cells [aint f]) := by
        simp -implicitDefEqProofs only [go_sem, Nat.reduceEqDiff, Nat.reduceAdd, Nat.reduceLeDiff, ↓reduceIte, reduceCtorEq, Int.reduceBEq, Int.reduceBNe, Int.reduceLT, Int.reduceLE, Int.reduceGT, Int.reduceGE, Int.reduceNeg, Int.reduceAdd, Int.reduceSub, Nat.reduceMul, Nat.reduceLT, Int.reduceToNat, kill_get, e2, e3, e4, e5, e6, Nat.add_assoc]
      have g1 : ((((((H.new (.cells [aint f])).new (.cells [aint t.form, aint t.n, abl t.hid, .v (.string t.name), lx, kx])).new (.cells z6)).new (.cells [aint t.form, aint t.n, abl t.hid, .v (.string t.name), lx, kx])).new (.cells l)).kill (H.next + 4)).get (H.next + 1) = some (.cells [aint t.form, aint t.n, abl t.hid, .v (.string t.name), lx, kx]) := by
        simp -implicitDefEqProofs only [go_sem, Nat.reduceEqDiff, Nat.reduceAdd, Nat.reduceLeDiff, ↓reduceIte, reduceCtorEq, Int.reduceBEq, Int.reduceBNe, Int.reduceLT, Int.reduceLE, Int.reduceGT, Int.reduceGE, Int.reduceNeg, Int.reduceAdd, Int.reduceSub, Nat.reduceMul, Nat.reduceLT, Int.reduceToNat, kill_get, e2, e3, e4, e5, e6, Nat.add_assoc]
      have g2 : ((((((H.new (.cells [aint f])).new (.cells [aint t.form, aint t.n, abl t.hid, .v (.string t.name), lx, kx])).new (.cells z6)).new (.cells [aint t.form, aint t.n, abl t.hid, .v (.string t.name), lx, kx])).new (.cells l)).kill (H.next + 4)).get (H.next + 2) = some (.cells z6) := by
        simp -implicitDefEqProofs only [go_sem, Nat.reduceEqDiff, Nat.reduceAdd, Nat.reduceLeDiff, ↓reduceIte, reduceCtorEq, Int.reduceBEq, Int.reduceBNe, Int.reduceLT, Int.reduceLE, Int.reduceGT, Int.reduceGE, Int.reduceNeg, Int.reduceAdd, Int.reduceSub, Nat.reduceMul, Nat.reduceLT, Int.reduceToNat, kill_get, e2, e3, e4, e5, e6, Nat.add_assoc]
      generalize ((((((H.new (.cells [aint f])).new (.cells [aint t.form, aint t.n, abl t.hid, .v (.string t.name), lx, kx])).new (.cells z6)).new (.cells [aint t.form, aint t.n, abl t.hid, .v (.string t.name), lx, kx])).new (.cells l)).kill (H.next + 4)) = G1 at *
      refine i_callA (fs := []) (cs := []) (fid := 91) ?_ ?_ (hidF_ok y hy.one hy.cells G1) ?_
      · rfl
      · simp -implicitDefEqProofs only [go_sem, Nat.reduceEqDiff, Nat.reduceAdd, Nat.reduceLeDiff, ↓reduceIte, reduceCtorEq, Int.reduceBEq, Int.reduceBNe, Int.reduceLT, Int.reduceLE, Int.reduceGT, Int.reduceGE, Int.reduceNeg, Int.reduceAdd, Int.reduceSub, Nat.reduceMul, Nat.reduceLT, Int.reduceToNat]
      rintro r G2 ⟨rfl, rfl⟩
      simp -implicitDefEqProofs only [go_sem, Nat.reduceEqDiff, Nat.reduceAdd, Nat.reduceLeDiff, ↓reduceIte, reduceCtorEq, Int.reduceBEq, Int.reduceBNe, Int.reduceLT, Int.reduceLE, Int.reduceGT, Int.reduceGE, Int.reduceNeg, Int.reduceAdd, Int.reduceSub, Nat.reduceMul, Nat.reduceLT, Int.reduceToNat, x_seq, x_ops, x_draw, x_block, x_condQ, x_ret, x_skip, xc_true, xc_false, xt_normal, xt_ret, xb_normal, xp_ret, hnx, Nat.add_assoc]
      refine i_callA (fs := []) (cs := []) (fid := 135) ?_ ?_ (inwards_ok x hx.one hx.cells _) ?_
      · rfl
      · simp -implicitDefEqProofs only [go_sem, Nat.reduceEqDiff, Nat.reduceAdd, Nat.reduceLeDiff, ↓reduceIte, reduceCtorEq, Int.reduceBEq, Int.reduceBNe, Int.reduceLT, Int.reduceLE, Int.reduceGT, Int.reduceGE, Int.reduceNeg, Int.reduceAdd, Int.reduceSub, Nat.reduceMul, Nat.reduceLT, Int.reduceToNat]
      rintro r G2 ⟨rfl, rfl⟩
      simp -implicitDefEqProofs only [go_sem, Nat.reduceEqDiff, Nat.reduceAdd, Nat.reduceLeDiff, ↓reduceIte, reduceCtorEq, Int.reduceBEq, Int.reduceBNe, Int.reduceLT, Int.reduceLE, Int.reduceGT, Int.reduceGE, Int.reduceNeg, Int.reduceAdd, Int.reduceSub, Nat.reduceMul, Nat.reduceLT, Int.reduceToNat, x_seq, x_ops, x_draw, x_block, x_condQ, x_ret, x_skip, xc_true, xc_false, xt_normal, xt_ret, xb_normal, xp_ret, hnx, Nat.add_assoc]
      refine bind_loop (H0 := H) (n := H.next) (f := f) (Nat.le_refl _) hx hy (by omega) _ _ ?_ ?_ ?_ ?_ (((hEa.new _).new _).set (by omega) _ |>.new _) ?_ ?_ ⟨_, ?_, hT⟩ ?_ ?_ ?_ ?_ ?_
      · simp -implicitDefEqProofs only [go_sem, Nat.reduceEqDiff, Nat.reduceAdd, Nat.reduceLeDiff, ↓reduceIte, reduceCtorEq, Int.reduceBEq, Int.reduceBNe, Int.reduceLT, Int.reduceLE, Int.reduceGT, Int.reduceGE, Int.reduceNeg, Int.reduceAdd, Int.reduceSub, Nat.reduceMul, Nat.reduceLT, Int.reduceToNat]
      · simp -implicitDefEqProofs only [go_sem, Nat.reduceEqDiff, Nat.reduceAdd, Nat.reduceLeDiff, ↓reduceIte, reduceCtorEq, Int.reduceBEq, Int.reduceBNe, Int.reduceLT, Int.reduceLE, Int.reduceGT, Int.reduceGE, Int.reduceNeg, Int.reduceAdd, Int.reduceSub, Nat.reduceMul, Nat.reduceLT, Int.reduceToNat]
      · simp -implicitDefEqProofs only [go_sem, Nat.reduceEqDiff, Nat.reduceAdd, Nat.reduceLeDiff, ↓reduceIte, reduceCtorEq, Int.reduceBEq, Int.reduceBNe, Int.reduceLT, Int.reduceLE, Int.reduceGT, Int.reduceGE, Int.reduceNeg, Int.reduceAdd, Int.reduceSub, Nat.reduceMul, Nat.reduceLT, Int.reduceToNat]
      · simp -implicitDefEqProofs only [go_sem, Nat.reduceEqDiff, Nat.reduceAdd, Nat.reduceLeDiff, ↓reduceIte, reduceCtorEq, Int.reduceBEq, Int.reduceBNe, Int.reduceLT, Int.reduceLE, Int.reduceGT, Int.reduceGE, Int.reduceNeg, Int.reduceAdd, Int.reduceSub, Nat.reduceMul, Nat.reduceLT, Int.reduceToNat]
      · simp -implicitDefEqProofs only [go_sem, Nat.reduceEqDiff, Nat.reduceAdd, Nat.reduceLeDiff, ↓reduceIte, reduceCtorEq, Int.reduceBEq, Int.reduceBNe, Int.reduceLT, Int.reduceLE, Int.reduceGT, Int.reduceGE, Int.reduceNeg, Int.reduceAdd, Int.reduceSub, Nat.reduceMul, Nat.reduceLT, Int.reduceToNat, hnx, Nat.add_assoc]
      · simp -implicitDefEqProofs only [go_sem, Nat.reduceEqDiff, Nat.reduceAdd, Nat.reduceLeDiff, ↓reduceIte, reduceCtorEq, Int.reduceBEq, Int.reduceBNe, Int.reduceLT, Int.reduceLE, Int.reduceGT, Int.reduceGE, Int.reduceNeg, Int.reduceAdd, Int.reduceSub, Nat.reduceMul, Nat.reduceLT, Int.reduceToNat, hnx, Nat.add_assoc, e2, e3, e4, e5, e6, e7, e8, e10, g0]
      · simp -implicitDefEqProofs only [go_sem, Nat.reduceEqDiff, Nat.reduceAdd, Nat.reduceLeDiff, ↓reduceIte, reduceCtorEq, Int.reduceBEq, Int.reduceBNe, Int.reduceLT, Int.reduceLE, Int.reduceGT, Int.reduceGE, Int.reduceNeg, Int.reduceAdd, Int.reduceSub, Nat.reduceMul, Nat.reduceLT, Int.reduceToNat, hnx, Nat.add_assoc, e2, e3, e4, e5, e6, e7, e8, g1]
      · simp -implicitDefEqProofs only [go_sem, Nat.reduceEqDiff, Nat.reduceAdd, Nat.reduceLeDiff, ↓reduceIte, reduceCtorEq, Int.reduceBEq, Int.reduceBNe, Int.reduceLT, Int.reduceLE, Int.reduceGT, Int.reduceGE, Int.reduceNeg, Int.reduceAdd, Int.reduceSub, Nat.reduceMul, Nat.reduceLT, Int.reduceToNat, hnx, Nat.add_assoc, e2, e3, e4, e5, e6, e7, e8, g2]
      · simp -implicitDefEqProofs only [go_sem, Nat.reduceEqDiff, Nat.reduceAdd, Nat.reduceLeDiff, ↓reduceIte, reduceCtorEq, Int.reduceBEq, Int.reduceBNe, Int.reduceLT, Int.reduceLE, Int.reduceGT, Int.reduceGE, Int.reduceNeg, Int.reduceAdd, Int.reduceSub, Nat.reduceMul, Nat.reduceLT, Int.reduceToNat, hnx, Nat.add_assoc, e2, e3, e4, e5, e6, e7, e8]
      · simp -implicitDefEqProofs only [go_sem, Nat.reduceEqDiff, Nat.reduceAdd, Nat.reduceLeDiff, ↓reduceIte, reduceCtorEq, Int.reduceBEq, Int.reduceBNe, Int.reduceLT, Int.reduceLE, Int.reduceGT, Int.reduceGE, Int.reduceNeg, Int.reduceAdd, Int.reduceSub, Nat.reduceMul, Nat.reduceLT, Int.reduceToNat, hnx, Nat.add_assoc, e2, e3, e4, e5, e6, e7, e8]
      · simp -implicitDefEqProofs only [go_sem, Nat.reduceEqDiff, Nat.reduceAdd, Nat.reduceLeDiff, ↓reduceIte, reduceCtorEq, Int.reduceBEq, Int.reduceBNe, Int.reduceLT, Int.reduceLE, Int.reduceGT, Int.reduceGE, Int.reduceNeg, Int.reduceAdd, Int.reduceSub, Nat.reduceMul, Nat.reduceLT, Int.reduceToNat, hnx, Nat.add_assoc, e2, e3, e4, e5, e6, e7, e8]
      rintro G2 ⟨hE2, hn2, g0', ⟨d, g1', hd⟩, g2', g5', g6', g7', g8'⟩
      rw [List.drop_zero] at hd
      have htel : Tm.All TmB (telT f hs 0 ks t) := telT_b hfr hkb htb
      generalize hTt : telT f hs 0 ks t = tel at *
      obtain ⟨ly, ky, hd6, q1, q2, q3, q4, q5, q6, q7, q8⟩ := hd.six
      subst hd6
      simp -implicitDefEqProofs only [go_sem, Nat.reduceEqDiff, Nat.reduceAdd, Nat.reduceLeDiff, ↓reduceIte, reduceCtorEq, Int.reduceBEq, Int.reduceBNe, Int.reduceLT, Int.reduceLE, Int.reduceGT, Int.reduceGE, Int.reduceNeg, Int.reduceAdd, Int.reduceSub, Nat.reduceMul, Nat.reduceLT, Int.reduceToNat, x_seq, x_ops, x_draw, x_block, x_condQ, x_ret, x_skip, xc_true, xc_false, xt_normal, xt_ret, xb_normal, xp_ret, Nat.add_assoc, e2, e3, e4, e5, e6, e7, e8, e9, g1', g2', q1, q2, q3, q4]
      refine i_callA (fs := []) (cs := []) (fid := 24) ?_ ?_ (check_ok canF tel (tmb_fine htel) _ hd.1 _) ?_
      · rfl
      · simp -implicitDefEqProofs only [go_sem, Nat.reduceEqDiff, Nat.reduceAdd, Nat.reduceLeDiff, ↓reduceIte, reduceCtorEq, Int.reduceBEq, Int.reduceBNe, Int.reduceLT, Int.reduceLE, Int.reduceGT, Int.reduceGE, Int.reduceNeg, Int.reduceAdd, Int.reduceSub, Nat.reduceMul, Nat.reduceLT, Int.reduceToNat]
      rintro r G3 ⟨rfl, hHH⟩
      have hHH := hHH.symm
      subst hHH
      by_cases hch : checkF canF tel = 0
      case neg =>
        simp -implicitDefEqProofs only [go_sem, Nat.reduceEqDiff, Nat.reduceAdd, Nat.reduceLeDiff, ↓reduceIte, reduceCtorEq, Int.reduceBEq, Int.reduceBNe, Int.reduceLT, Int.reduceLE, Int.reduceGT, Int.reduceGE, Int.reduceNeg, Int.reduceAdd, Int.reduceSub, Nat.reduceMul, Nat.reduceLT, Int.reduceToNat, x_seq, x_ops, x_draw, x_block, x_condQ, x_ret, x_skip, xc_true, xc_false, xt_normal, xt_ret, xb_normal, xp_ret, bne' hch, kill_get, e2, e3, e4, e5, e6, e7, e8, e9, Nat.add_assoc, afill, g1', g2', q1, q2, q3, q4]
        exact ⟨(hE2.set (by omega) _).set (by omega) _, _, _, zeroTm, rfl, tmp_zero, fun h => absurd (by rw [← hTt]; exact h.2.2) hch, fun h => absurd h hch⟩
      rw [hch]
      simp -implicitDefEqProofs only [go_sem, Nat.reduceEqDiff, Nat.reduceAdd, Nat.reduceLeDiff, ↓reduceIte, reduceCtorEq, Int.reduceBEq, Int.reduceBNe, Int.reduceLT, Int.reduceLE, Int.reduceGT, Int.reduceGE, Int.reduceNeg, Int.reduceAdd, Int.reduceSub, Nat.reduceMul, Nat.reduceLT, Int.reduceToNat, x_seq, x_ops, x_draw, x_block, x_condQ, x_ret, x_skip, xc_true, xc_false, xt_normal, xt_ret, xb_normal, xp_ret, kill_get, e2, e3, e4, e5, e6, e7, e8, e9, Nat.add_assoc, afill, g1', g2', q1, q2, q3, q4]
      obtain ⟨hz1, hz2⟩ := check_sz hch
      refine i_callA (fs := []) (cs := []) (fid := 76) ?_ ?_ (copy_ok tel htel (by omega) (by omega) _ hd _) ?_
      · rfl
      · simp -implicitDefEqProofs only [go_sem, Nat.reduceEqDiff, Nat.reduceAdd, Nat.reduceLeDiff, ↓reduceIte, reduceCtorEq, Int.reduceBEq, Int.reduceBNe, Int.reduceLT, Int.reduceLE, Int.reduceGT, Int.reduceGE, Int.reduceNeg, Int.reduceAdd, Int.reduceSub, Nat.reduceMul, Nat.reduceLT, Int.reduceToNat]
      rintro r G3 ⟨⟨xc, rfl, hxc⟩, hHH⟩
      have hHH := hHH.symm
      subst hHH
      obtain ⟨az, bz, hk5, u1, u2, u3, u4, u5, u6, u7, u8⟩ := hxc.six
      subst hk5
      simp -implicitDefEqProofs only [go_sem, Nat.reduceEqDiff, Nat.reduceAdd, Nat.reduceLeDiff, ↓reduceIte, reduceCtorEq, Int.reduceBEq, Int.reduceBNe, Int.reduceLT, Int.reduceLE, Int.reduceGT, Int.reduceGE, Int.reduceNeg, Int.reduceAdd, Int.reduceSub, Nat.reduceMul, Nat.reduceLT, Int.reduceToNat, x_seq, x_ops, x_draw, x_block, x_condQ, x_ret, x_skip, xc_true, xc_false, xt_normal, xt_ret, xb_normal, xp_ret, kill_get, e2, e3, e4, e5, e6, e7, e8, e9, Nat.add_assoc, afill, g1', g2', u1, u2, u3, u4]
      exact ⟨(hE2.set (by omega) _).set (by omega) _, _, 0, _, rfl, hxc, fun _ => rfl, fun _ => ⟨hn60, hask, by rw [hTt]; exact hch, by rw [hTt]⟩⟩
  · rintro _ _ r H' ⟨hE, c, e, u, rfl, hc, h1, h2⟩ _
    exact ⟨hE, _, .keep _ (hold hc e), c, e, u, rfl, hc, h1, h2⟩
end Go.Proofs.Ytooaiddfokbffaa.E

/- The law TeleSpine, walked. Conditions: none. -/
set_option linter.unusedVariables false
set_option linter.unusedSimpArgs false
namespace Go.Proofs.Ytooaiddfokbffaa.E
open Go Go.Proofs

theorem tmbv0 : Tm.All TmB (varTm 0) := by
  simp [varTm, Tm.All, Tm.AllL, TmB, Tm.form, Tm.n, Tm.hid, Tm.name, Tm.lv, Tm.kids, Rng, zeroS, LvB]
  decide
theorem rng3 : Rng 3 := by simp [Rng]
theorem piEx_clean : cleanT piEx = piEx := rfl
theorem piEx_ask : askF ([set0, varTm 0] ++ [varTm 1]) = 0 := by decide

theorem bindEx : BindEx := by
  intro b k0 k1 H h0 h1 hg hb
  have hX : KsX [set0, varTm 0] (k0 ++ k1) := by
    have := KsX.snoc (KsX.snoc (ks := []) (cs := []) rfl h0) h1
    simpa using this
  have hR : RowAt [set0, varTm 0] (.slc b 0 6 2 2 true) H := RowAt.own (ks := [set0, varTm 0]) hg hb hX (by simp)
  refine (bind_ok 3 [] [set0, varTm 0] (varTm 1) rng3 ⟨tmb0, tmbv0, trivial⟩ tmb1 (by simp) _ nils _ H hR (.inl ⟨rfl, rfl⟩) (tmp_var 1)).mono ?_
  rintro r H' ⟨⟨c, e, u, rfl, hc, k1, k2⟩, rfl⟩
  have he := k1 ⟨by simp, piEx_ask, by rw [piEx_tel]; exact piEx_check⟩
  subst he
  obtain ⟨_, _, _, hu⟩ := k2 rfl
  rw [piEx_tel, piEx_clean] at hu
  subst hu
  exact ⟨⟨c, rfl, hc⟩, rfl⟩

theorem aliveSp (H : AHeap) : SCall Try.prog 28 [] H fun x H' => x = abl true ∧ H' = H := aliveSp_of bindEx H

end Go.Proofs.Ytooaiddfokbffaa.E

/- What is put around a term is split off again: plain laws. Conditions: none. -/
set_option linter.unusedVariables false
set_option linter.unusedSimpArgs false
namespace Go.Proofs.Ytooaiddfokbffaa.E
open Go Go.Proofs

theorem bare_idem (f n : Int) (h : Bool) (s : ByteArray) (lv : List Lv) (ks ks' : List Tm) : ((bareT (.mk f n h s lv ks)).with ks') = .mk f (if f = 1 ∨ f = 11 then n else 0) (if f = 3 ∨ f = 4 ∨ f = 5 then h else false) (if f = 10 then s else zeroS) (if f = 2 ∨ f = 10 then lv else []) ks' := rfl

mutual
theorem clean_clean : ∀ t, cleanT (cleanT t) = cleanT t
  | .mk f n h s lv ks => by
    rw [cleanT, clean_bare, clean_cleanK ks]
theorem clean_cleanK : ∀ ks, cleanK (cleanK ks) = cleanK ks
  | [] => rfl
  | k :: r => by
    rw [cleanK, cleanK, clean_clean k, clean_cleanK r]
end

theorem clean_pi (h : Bool) (a b : Tm) : cleanT (.mk 3 0 h zeroS [] [a, b]) = .mk 3 0 h zeroS [] [cleanT a, cleanT b] := by
  simp [cleanT, cleanK, bareT, Tm.with]
theorem clean_ap (h : Bool) (a b : Tm) : cleanT (.mk 5 0 h zeroS [] [a, b]) = .mk 5 0 h zeroS [] [cleanT a, cleanT b] := by
  simp [cleanT, cleanK, bareT, Tm.with]

/-- The hidden marks of so many from one on. -/
def hidL (hs : List Bool) : Nat → List Tm → List (Tm × Bool)
  | _, [] => []
  | i, k :: r => (k, hidF hs i) :: hidL hs (i + 1) r
theorem hidL_fst (hs : List Bool) : ∀ (ks : List Tm) (i : Nat), (hidL hs i ks).map (·.1) = ks
  | [], _ => rfl
  | k :: r, i => by rw [hidL, List.map_cons, hidL_fst hs r]
theorem hidL_len (hs : List Bool) : ∀ (ks : List Tm) (i : Nat), (hidL hs i ks).length = ks.length
  | [], _ => rfl
  | k :: r, i => by rw [hidL, List.length_cons, hidL_len hs r, List.length_cons]

theorem piN_tel (hs : List Bool) : ∀ (ks : List Tm) (i : Nat) (t : Tm), piN ks.length (cleanT (telT 3 hs i ks t)) = some (hidL hs i (cleanK ks), cleanT t)
  | [], i, t => rfl
  | k :: r, i, t => by
    rw [telT, clean_pi, List.length_cons, piN_yes, piN_tel hs r (i + 1) t]
    simp [cleanK, hidL]

/-- What Apply makes, in plain. -/
def appT (hs : List Bool) : Nat → Tm → List Tm → Tm
  | _, t, [] => t
  | i, t, k :: r => appT hs (i + 1) (.mk 5 0 (hidF hs i) zeroS [] [t, k]) r
theorem appT_snoc (hs : List Bool) : ∀ (ks : List Tm) (i : Nat) (t k : Tm), appT hs i t (ks ++ [k]) = .mk 5 0 (hidF hs (i + ks.length)) zeroS [] [appT hs i t ks, k]
  | [], i, t, k => rfl
  | k0 :: r, i, t, k => by
    rw [List.cons_append, appT, appT_snoc hs r, appT, List.length_cons]
    congr 2
    omega

theorem spT_appT (hs : List Bool) : ∀ (ks : List Tm) (i : Nat) (t : Tm), spT (cleanT (appT hs i t ks)) = spT (cleanT t) ++ hidL hs i (cleanK ks)
  | [], i, t => by simp [appT, hidL, cleanK]
  | k :: r, i, t => by
    rw [appT, spT_appT hs r, clean_ap, spT_app]
    simp [cleanK, hidL]

mutual
theorem spT_clean : ∀ t, (spT (cleanT t)).map (·.1) = cleanK ((spT t).map (·.1))
  | .mk f n h s lv ks => by
    rw [cleanT, bare_idem, spT, spT]
    by_cases hf : f = 5
    · rw [if_pos hf, if_pos hf, spK_clean ks]
    · rw [if_neg hf, if_neg hf]; rfl
theorem spK_clean : ∀ (ks : List Tm) (h h' : Bool), (spK h (cleanK ks)).map (·.1) = cleanK ((spK h' ks).map (·.1))
  | [], h, h' => by simp [spK, cleanK]
  | k :: r, h, h' => by
    cases r with
    | nil => simp [spK, cleanK, spT_clean k]
    | cons a r => simp [spK, cleanK, spT_clean k, cleanK_app]
end
theorem askF_all : ∀ {ks : List Tm}, askF ks = 0 → ∀ k ∈ ks, checkF canF k = 0
  | [], _, k, hk => by cases hk
  | k0 :: r, h, k, hk => by
    rw [askF] at h
    split at h
    · rename_i h0
      rcases List.mem_cons.1 hk with rfl | hk
      · exact h0
      · exact askF_all h k hk
    · rename_i h0; exact absurd h h0

theorem appT_b {hs : List Bool} : ∀ {ks : List Tm} {i : Nat} {t : Tm}, Tm.AllL TmB ks → Tm.All TmB t → Tm.All TmB (appT hs i t ks)
  | [], i, t, _, h => h
  | k :: r, i, t, ⟨h1, h2⟩, h => by
    rw [appT]
    refine appT_b h2 ?_
    simp only [Tm.All, Tm.AllL]
    exact ⟨⟨by simp [Rng, Tm.form], by simp [Rng, Tm.n], by simp [Tm.name, zeroS]; decide, by simp [Tm.lv], by simp [Tm.kids], by simp [Tm.lv]⟩, h, h1, trivial⟩

end Go.Proofs.Ytooaiddfokbffaa.E

/- tele.Apply. Conditions: none. -/
set_option linter.unusedVariables false
set_option linter.unusedSimpArgs false
namespace Go.Proofs.Ytooaiddfokbffaa.E
open Go Go.Proofs
attribute [local go_sem] s_seq s_ops s_draw s_block s_skip s_ret s_exit i_nil i_cons i_run i_runG s_condQ c_true c_false aop ev_t ev_c updO_at updO_no upd_at t_normal t_ret t_exit b_normal b_ret b_exit a_some ac_v ac_agg ac_ptr ac_slc ac_ro ac_rop ac_fn new_next set_next argTm_zero argTm_succ argTm_nil ab_bool ab_uv beq_self_eq_true Option.some_beq_some Bool.not_not beq_iff_eq decide_true decide_false Bool.not_true Bool.not_false afld aload astore apack alen_str alen_ro alen_slc alen_nil new_get set_get ite_true ite_false Option.map_some Option.bind_some ibin isShift Nat.add_zero Nat.zero_add List.length_cons List.length_nil List.drop_zero List.drop_succ_cons List.take_succ_cons List.take_zero if_true if_false setL List.set_cons_zero List.set_cons_succ List.all_cons List.all_nil one_int one_bool one_str one_nil one_ptr one_slc one_ro one_rop one_fn Bool.and_self Bool.and_true true_and and_true and_self Bool.false_eq_true post_ret post_normal resAll resOne packR Option.some.injEq exists_eq_left' List.map_cons List.map_nil List.nil_append List.append_nil List.cons_append d_nil d_cons k_nil k_cons g_op g_same g_new avBlock forall_eq' List.getElem?_cons_succ List.getElem?_cons_zero List.getElem?_nil okind gOk bne false_imp_iff forall_const imp_self implies_true true_imp_iff i_callG

/-- What Apply answers. -/
def ApplyR (hs : List Bool) (ks : List Tm) (t : Tm) (r : AV) : Prop := ∃ c e u, r = .tup [.agg c, aint e] ∧ TmP u c ∧ (e = 0 → ks.length ≤ 60 ∧ askF (ks ++ [t]) = 0 ∧ checkF canF (appT hs 0 t ks) = 0 ∧ u = cleanT (appT hs 0 t ks))

/-- A term in the box n, or one whose two parts lie in a block of one's own. -/
def HalfT (lo : Nat) (n : Nat) (G : AHeap) (u : Tm) : Prop := ∃ c, G.get n = some (.cells c) ∧ (TmP u c ∨ ∃ B h a k ca ck, lo ≤ B ∧ B < G.next ∧ u = .mk 5 0 h zeroS [] [a, k] ∧ c = [aint 5, aint 0, abl h, nostr, nils, .slc B 0 6 2 2 true] ∧ G.get B = some (.cells (ca ++ ck)) ∧ TmP a ca ∧ TmP k ck)

theorem HalfT.frz {lo n : Nat} {G : AHeap} {u : Tm} {tm : Nat → AV} (h : HalfT lo n G u) (hn : n < lo) : ∃ G' c, Fz ⟨tm, G⟩ ⟨tm, G'⟩ ∧ G'.get n = some (.cells c) ∧ TmP u c ∧ G'.next = G.next ∧ ∀ b, b < lo → b ≠ n → G'.get b = G.get b := by
  obtain ⟨c, h1, h2⟩ := h
  rcases h2 with h2 | ⟨B, hd, a, k, ca, ck, q1, q2, rfl, rfl, q3, q4, q5⟩
  · exact ⟨G, c, .refl _, h1, h2, rfl, fun _ _ _ => rfl⟩
  · have hX : KsX [a, k] (ca ++ ck) := by simpa using KsX.snoc (KsX.snoc (ks := []) (cs := []) rfl q4) q5
    refine ⟨(G.kill B).set n (.cells [aint 5, aint 0, abl hd, nostr, nils, .ro 2 2 true (ca ++ ck)]), _, ?_, ?_, tmp_mk sll_nil (SlK.of hX (.inr ⟨2, true, rfl, Nat.le_refl _⟩)), rfl, fun b hb hne => ?_⟩
    · refine Fz.step (st1 := ⟨tm, (G.kill B).set n (.cells [aint 5, aint 0, abl hd, nostr, nils, .ro 2 2 true (ca ++ ck)])⟩) B (ca ++ ck) q3 (fun i => .keep _) rfl ?_ (fun x hx => ?_) (.refl _)
      · show ((G.kill B).set n _).get B = none
        rw [set_get, if_neg (by omega), kill_get, if_pos rfl]
      · show ((G.kill B).set n _).get x = _ ∨ _
        by_cases hxn : x = n
        · subst hxn
          refine .inr ⟨_, _, h1, ?_, .cons (.keep _) (.cons (.keep _) (.cons (.keep _) (.cons (.keep _) (.cons (.keep _) (.cons (.slc 0 6 2 2 true (ca ++ ck) (by simp) (by rw [List.drop_zero, List.take_length])) .nil)))))⟩
          rw [set_get, if_pos rfl]
        · exact .inl (by rw [set_get, if_neg hxn, kill_get, if_neg hx])
    · rw [set_get, if_pos rfl]; rfl
    · rw [set_get, if_neg hne, kill_get, if_neg (by omega)]

set_option maxRecDepth 100000 in
theorem apply_ok (hs : List Bool) (ks : List Tm) (t : Tm) (hkb : Tm.AllL TmB ks) (htb : Tm.All TmB t) (hn : ks.length ≤ 4611686018427387904) (x y : AV) (tc : List AV) (H : AHeap) (hx : RowAt ks x H) (hy : HidR hs y) (hT : TmP t tc) :
    SCall Try.prog 38 [.agg tc, x, y] H fun r H' => ApplyR hs ks t r ∧ H' = H := by
  obtain ⟨lx, kx, hc6, p1, p2, p3, p4, p5, p6, p7, p8⟩ := hT.six
  subst hc6
  have hxl := hx.len
  have e2 : ∀ j k, (H.next + j = H.next + k) = (j = k) := fun j k => by simp
  have e3 : (H.next = H.next + 1) = False := by simp
  have e4 : (H.next = H.next + 2) = False := by simp
  have e5 : (H.next = H.next + 3) = False := by simp
  have e6 : (H.next = H.next + 4) = False := by simp
  have hold : ∀ {c : List AV} {u : Tm}, TmP u c → ∀ e : Int, Old H.next (.tup [.agg c, aint e]) := fun hc e => .tup _ fun y hy => by
    simp at hy
    rcases hy with rfl | rfl
    · exact .agg _ fun z hz => (hc.2 z hz).mono (Nat.zero_le _)
    · exact .v _
  refine SCall.frz (R := fun r H' => Ext H H' ∧ ApplyR hs ks t r) (SCall.introX mixed cf38 ?_) ?_
  · by_cases hlen : (ks.length : Int) > 60
    · simp -implicitDefEqProofs only [c38, go_sem, Nat.reduceEqDiff, Nat.reduceAdd, Nat.reduceLeDiff, ↓reduceIte, reduceCtorEq, Int.reduceBEq, Int.reduceBNe, Int.reduceLT, Int.reduceLE, Int.reduceGT, Int.reduceGE, Int.reduceNeg, Int.reduceAdd, Int.reduceSub, Nat.reduceMul, Nat.reduceLT, Int.reduceToNat, x_seq, x_ops, x_draw, x_block, x_condQ, x_ret, x_skip, xc_true, xc_false, xt_normal, xt_ret, xb_normal, xp_ret, p1, p2, p3, p4, hxl, hx.one, hx.cells, hlen, e2, e3, e4, e5, e6, Nat.add_assoc, Nat.succ_ne_self, afill]
      exact ⟨(((Ext.refl H).new _).new _).set (by omega) _, _, 2, zeroTm, rfl, tmp_zero, fun h => by omega⟩
    · have hn60 : ks.length ≤ 60 := by omega
      have hnn : (0 : Int) ≤ (ks.length : Int) := by omega
      obtain ⟨y', hsl, ha⟩ := hx.app (by omega)
      obtain ⟨l, happ, hX⟩ := ha (((H.new (.cells [aint t.form, aint t.n, abl t.hid, .v (.string t.name), lx, kx])).new (.cells z6)).new (.cells [aint t.form, aint t.n, abl t.hid, .v (.string t.name), lx, kx])) (H.next + 2) t _ ((((Ext.refl H).new _).new _).new _) hT (by rw [new_get]; exact if_pos rfl)
      simp only [new_next, Nat.add_assoc, Nat.reduceAdd] at happ
      simp -implicitDefEqProofs only [c38, go_sem, Nat.reduceEqDiff, Nat.reduceAdd, Nat.reduceLeDiff, ↓reduceIte, reduceCtorEq, Int.reduceBEq, Int.reduceBNe, Int.reduceLT, Int.reduceLE, Int.reduceGT, Int.reduceGE, Int.reduceNeg, Int.reduceAdd, Int.reduceSub, Nat.reduceMul, Nat.reduceLT, Int.reduceToNat, x_seq, x_ops, x_draw, x_block, x_condQ, x_ret, x_skip, xc_true, xc_false, xt_normal, xt_ret, xb_normal, xp_ret, p1, p2, p3, p4, hxl, hx.one, hx.cells, hlen, e2, e3, e4, e5, e6, Nat.add_assoc, afill, anat, Option.map_none, Int.toNat_natCast, hnn, hsl, happ]
      have hab : Tm.AllL TmB (ks ++ [t]) := allL_snoc hkb htb
      have hll : (ks ++ [t]).length = ks.length + 1 := by simp
      refine i_callA (fs := []) (cs := []) (fid := 90) ?_ ?_ (SCall.gives (b := H.next + 3) (l := l) ?_ (.cons (.slc 0 6 (ks.length + 1) (ks.length + 1) false l (by simp) (by simp)) .nil) (ask_ok (ks ++ [t]) hab _ l (.inr ⟨_, _, by rw [hll], by omega⟩) hX.rel (by omega) _)) ?_
      · rfl
      · simp -implicitDefEqProofs only [go_sem, Nat.reduceEqDiff, Nat.reduceAdd, Nat.reduceLeDiff, ↓reduceIte, reduceCtorEq, Int.reduceBEq, Int.reduceBNe, Int.reduceLT, Int.reduceLE, Int.reduceGT, Int.reduceGE, Int.reduceNeg, Int.reduceAdd, Int.reduceSub, Nat.reduceMul, Nat.reduceLT, Int.reduceToNat]
      · simp -implicitDefEqProofs only [go_sem, Nat.reduceEqDiff, Nat.reduceAdd, Nat.reduceLeDiff, ↓reduceIte, reduceCtorEq, Int.reduceBEq, Int.reduceBNe, Int.reduceLT, Int.reduceLE, Int.reduceGT, Int.reduceGE, Int.reduceNeg, Int.reduceAdd, Int.reduceSub, Nat.reduceMul, Nat.reduceLT, Int.reduceToNat, Nat.add_assoc]
      rintro r G1 ⟨rfl, hHH⟩
      have hHH := hHH.symm
      subst hHH
      have hEa : Ext H ((((H.new (.cells [aint t.form, aint t.n, abl t.hid, .v (.string t.name), lx, kx])).new (.cells z6)).new (.cells [aint t.form, aint t.n, abl t.hid, .v (.string t.name), lx, kx])).new (.cells l) |>.kill (H.next + 3)) := (((((Ext.refl H).new _).new _).new _).new _).kill (by omega)
      by_cases hask : askF (ks ++ [t]) = 0
      case neg =>
        simp -implicitDefEqProofs only [go_sem, Nat.reduceEqDiff, Nat.reduceAdd, Nat.reduceLeDiff, ↓reduceIte, reduceCtorEq, Int.reduceBEq, Int.reduceBNe, Int.reduceLT, Int.reduceLE, Int.reduceGT, Int.reduceGE, Int.reduceNeg, Int.reduceAdd, Int.reduceSub, Nat.reduceMul, Nat.reduceLT, Int.reduceToNat, x_seq, x_ops, x_draw, x_block, x_condQ, x_ret, x_skip, xc_true, xc_false, xt_normal, xt_ret, xb_normal, xp_ret, bne' hask, kill_get, e2, e3, e4, e5, e6, Nat.add_assoc, afill]
        exact ⟨hEa.set (by omega) _, _, _, zeroTm, rfl, tmp_zero, fun h => absurd h hask⟩
      rw [hask]
      simp -implicitDefEqProofs only [go_sem, Nat.reduceEqDiff, Nat.reduceAdd, Nat.reduceLeDiff, ↓reduceIte, reduceCtorEq, Int.reduceBEq, Int.reduceBNe, Int.reduceLT, Int.reduceLE, Int.reduceGT, Int.reduceGE, Int.reduceNeg, Int.reduceAdd, Int.reduceSub, Nat.reduceMul, Nat.reduceLT, Int.reduceToNat, x_seq, x_ops, x_draw, x_block, x_condQ, x_ret, x_skip, xc_true, xc_false, xt_normal, xt_ret, xb_normal, xp_ret, kill_get, e2, e3, e4, e5, e6, Nat.add_assoc, afill]
      have hnx : (((((H.new (.cells [aint t.form, aint t.n, abl t.hid, .v (.string t.name), lx, kx])).new (.cells z6)).new (.cells [aint t.form, aint t.n, abl t.hid, .v (.string t.name), lx, kx])).new (.cells l)).kill (H.next + 3)).next = H.next + 4 := rfl
      have g1 : (((((H.new (.cells [aint t.form, aint t.n, abl t.hid, .v (.string t.name), lx, kx])).new (.cells z6)).new (.cells [aint t.form, aint t.n, abl t.hid, .v (.string t.name), lx, kx])).new (.cells l)).kill (H.next + 3)).get H.next = some (.cells [aint t.form, aint t.n, abl t.hid, .v (.string t.name), lx, kx]) := by
        simp -implicitDefEqProofs only [go_sem, Nat.reduceEqDiff, Nat.reduceAdd, Nat.reduceLeDiff, ↓reduceIte, reduceCtorEq, Int.reduceBEq, Int.reduceBNe, Int.reduceLT, Int.reduceLE, Int.reduceGT, Int.reduceGE, Int.reduceNeg, Int.reduceAdd, Int.reduceSub, Nat.reduceMul, Nat.reduceLT, Int.reduceToNat, kill_get, e2, e3, e4, e5, e6, Nat.add_assoc]
      have g2 : (((((H.new (.cells [aint t.form, aint t.n, abl t.hid, .v (.string t.name), lx, kx])).new (.cells z6)).new (.cells [aint t.form, aint t.n, abl t.hid, .v (.string t.name), lx, kx])).new (.cells l)).kill (H.next + 3)).get (H.next + 1) = some (.cells z6) := by
        simp -implicitDefEqProofs only [go_sem, Nat.reduceEqDiff, Nat.reduceAdd, Nat.reduceLeDiff, ↓reduceIte, reduceCtorEq, Int.reduceBEq, Int.reduceBNe, Int.reduceLT, Int.reduceLE, Int.reduceGT, Int.reduceGE, Int.reduceNeg, Int.reduceAdd, Int.reduceSub, Nat.reduceMul, Nat.reduceLT, Int.reduceToNat, kill_get, e2, e3, e4, e5, e6, Nat.add_assoc]
      generalize (((((H.new (.cells [aint t.form, aint t.n, abl t.hid, .v (.string t.name), lx, kx])).new (.cells z6)).new (.cells [aint t.form, aint t.n, abl t.hid, .v (.string t.name), lx, kx])).new (.cells l)).kill (H.next + 3)) = G1 at *
      refine i_callA (fs := []) (cs := []) (fid := 91) ?_ ?_ (hidF_ok y hy.one hy.cells G1) ?_
      · rfl
      · simp -implicitDefEqProofs only [go_sem, Nat.reduceEqDiff, Nat.reduceAdd, Nat.reduceLeDiff, ↓reduceIte, reduceCtorEq, Int.reduceBEq, Int.reduceBNe, Int.reduceLT, Int.reduceLE, Int.reduceGT, Int.reduceGE, Int.reduceNeg, Int.reduceAdd, Int.reduceSub, Nat.reduceMul, Nat.reduceLT, Int.reduceToNat]
      rintro r G2 ⟨rfl, rfl⟩
      simp -implicitDefEqProofs only [go_sem, Nat.reduceEqDiff, Nat.reduceAdd, Nat.reduceLeDiff, ↓reduceIte, reduceCtorEq, Int.reduceBEq, Int.reduceBNe, Int.reduceLT, Int.reduceLE, Int.reduceGT, Int.reduceGE, Int.reduceNeg, Int.reduceAdd, Int.reduceSub, Nat.reduceMul, Nat.reduceLT, Int.reduceToNat, x_seq, x_ops, x_draw, x_block, x_condQ, x_ret, x_skip, xc_true, xc_false, xt_normal, xt_ret, xb_normal, xp_ret, hnx, Nat.add_assoc, hxl]
      refine swpX_range ks.length (fun i st => st.tm 3 = .ptr H.next 0 ∧ st.tm 6 = .ptr (H.next + 1) 0 ∧ st.tm 9 = .fn (.func 137) [] [.ptr (H.next + 4) 0] ∧ st.tm 33 = x ∧ st.tm 34 = aint ks.length ∧ st.tm 35 = aint i ∧ Ext H st.heap ∧ H.next + 5 ≤ st.heap.next ∧
        st.heap.get (H.next + 1) = some (.cells z6) ∧ st.heap.get (H.next + 4) = some (.cells [y]) ∧ HalfT (H.next + 5) H.next st.heap (appT hs 0 t (ks.take i))) ?_ ?_ ?_
      · refine ⟨rfl, rfl, rfl, rfl, rfl, rfl, hEa.new _, by show H.next + 5 ≤ G1.next + 1; omega, ?_, ?_, _, ?_, .inl hT⟩
        · simp -implicitDefEqProofs only [go_sem, Nat.reduceEqDiff, Nat.reduceAdd, Nat.reduceLeDiff, ↓reduceIte, reduceCtorEq, Int.reduceBEq, Int.reduceBNe, Int.reduceLT, Int.reduceLE, Int.reduceGT, Int.reduceGE, Int.reduceNeg, Int.reduceAdd, Int.reduceSub, Nat.reduceMul, Nat.reduceLT, Int.reduceToNat, hnx, e2, e3, e4, e5, e6, g2]
        · simp -implicitDefEqProofs only [go_sem, Nat.reduceEqDiff, Nat.reduceAdd, Nat.reduceLeDiff, ↓reduceIte, reduceCtorEq, Int.reduceBEq, Int.reduceBNe, Int.reduceLT, Int.reduceLE, Int.reduceGT, Int.reduceGE, Int.reduceNeg, Int.reduceAdd, Int.reduceSub, Nat.reduceMul, Nat.reduceLT, Int.reduceToNat, hnx, e2, e3, e4, e5, e6]
        · simp -implicitDefEqProofs only [go_sem, Nat.reduceEqDiff, Nat.reduceAdd, Nat.reduceLeDiff, ↓reduceIte, reduceCtorEq, Int.reduceBEq, Int.reduceBNe, Int.reduceLT, Int.reduceLE, Int.reduceGT, Int.reduceGE, Int.reduceNeg, Int.reduceAdd, Int.reduceSub, Nat.reduceMul, Nat.reduceLT, Int.reduceToNat, hnx, e2, e3, e4, e5, e6, g1]
      · rintro i ⟨tm, G⟩ hi ⟨t3, t6, t9, t33, t34, t35, hE, hnG, k1, k4, hH⟩
        simp only at t3 t6 t9 t33 t34 t35 hE hnG k1 k4 hH
        obtain ⟨G', c, hFz, j0, hc, jn, jo⟩ := hH.frz (tm := tm) (by omega)
        refine ⟨_, hFz, ?_⟩
        have hltI : (i : Int) < (ks.length : Int) := by omega
        have w3 : IntKind.i64.wrap ((i : Int) + 1) = (i : Int) + 1 := i64_ok _ (by omega)
        obtain ⟨p, hp, hl⟩ := hx.elt i hi
        have hE' : Ext H G' := ⟨by rw [jn]; exact hE.1, fun b hb => (jo b (by omega) (by omega)).trans (hE.2 b hb)⟩
        obtain ⟨kc, hkc, hkT⟩ := hl G' hE'
        have hkc' := hkc
        simp only [aload] at hkc'
        have k1' : G'.get (H.next + 1) = some (.cells z6) := (jo _ (by omega) (by omega)).trans k1
        have k4' : G'.get (H.next + 4) = some (.cells [y]) := (jo _ (by omega) (by omega)).trans k4
        obtain ⟨ux, vx, hu6, a1, a2, a3, a4, a5, a6, a7, a8⟩ := hc.six
        obtain ⟨wx, zx, hw6, b1, b2, b3, b4, b5, b6, b7, b8⟩ := hkT.six
        have m1 : ¬ H.next = G'.next := by omega
        have m2 : ¬ H.next = G'.next + 1 := by omega
        have m3 : ¬ H.next + 4 = G'.next := by omega
        have m4 : ¬ H.next + 4 = G'.next + 1 := by omega
        have m5 : ¬ G'.next = H.next := by omega
        have m6 : ¬ G'.next + 1 = H.next := by omega
        have m7 : ¬ G'.next + 1 = G'.next := by omega
        have m8 : ¬ G'.next = G'.next + 1 := by omega
        subst hu6 hw6
        simp -implicitDefEqProofs only [go_sem, Nat.reduceEqDiff, Nat.reduceAdd, Nat.reduceLeDiff, ↓reduceIte, reduceCtorEq, Int.reduceBEq, Int.reduceBNe, Int.reduceLT, Int.reduceLE, Int.reduceGT, Int.reduceGE, Int.reduceNeg, Int.reduceAdd, Int.reduceSub, Nat.reduceMul, Nat.reduceLT, Int.reduceToNat, x_seq, x_ops, x_draw, x_block, x_condQ, x_ret, x_skip, x_exit, xc_true, xc_false, xt_normal, xt_ret, xt_exit, xb_normal, xb_exit, xp_ret, t3, t6, t9, t33, t34, t35, hltI, hp, hkc', hx.one, hx.cells, j0, k1', k4', a1, a2, a3, a4, b1, b2, b3, b4, m1, m2, m3, m4, m5, m6, m7, m8, afill]
        refine i_callA (fs := []) (cs := [.ptr (H.next + 4) 0]) (fid := 137) ?_ ?_ (hidden1_ok hs y hy i (by omega) (H.next + 4) _ ?_) ?_
        · rfl
        · simp -implicitDefEqProofs only [go_sem, Nat.reduceEqDiff, Nat.reduceAdd, Nat.reduceLeDiff, ↓reduceIte, reduceCtorEq, Int.reduceBEq, Int.reduceBNe, Int.reduceLT, Int.reduceLE, Int.reduceGT, Int.reduceGE, Int.reduceNeg, Int.reduceAdd, Int.reduceSub, Nat.reduceMul, Nat.reduceLT, Int.reduceToNat]
        · simp -implicitDefEqProofs only [go_sem, Nat.reduceEqDiff, Nat.reduceAdd, Nat.reduceLeDiff, ↓reduceIte, reduceCtorEq, Int.reduceBEq, Int.reduceBNe, Int.reduceLT, Int.reduceLE, Int.reduceGT, Int.reduceGE, Int.reduceNeg, Int.reduceAdd, Int.reduceSub, Nat.reduceMul, Nat.reduceLT, Int.reduceToNat, m3, m4, k4']
        rintro r G3 ⟨rfl, hHH⟩
        have hHH := hHH.symm
        subst hHH
        simp -implicitDefEqProofs only [go_sem, Nat.reduceEqDiff, Nat.reduceAdd, Nat.reduceLeDiff, ↓reduceIte, reduceCtorEq, Int.reduceBEq, Int.reduceBNe, Int.reduceLT, Int.reduceLE, Int.reduceGT, Int.reduceGE, Int.reduceNeg, Int.reduceAdd, Int.reduceSub, Nat.reduceMul, Nat.reduceLT, Int.reduceToNat, x_seq, x_ops, x_draw, x_block, x_condQ, x_ret, x_skip, x_exit, xc_true, xc_false, xt_normal, xt_ret, xt_exit, xb_normal, xb_exit, xp_ret, t3, t6, t9, t33, t34, t35, hltI, hp, hkc', hx.one, hx.cells, j0, k1', k4', a1, a2, a3, a4, b1, b2, b3, b4, m1, m2, m3, m4, m5, m6, m7, m8, afill, w3]
        have htk : ks.take (i + 1) = ks.take i ++ [ks[i]] := by rw [List.take_add_one, List.getElem?_eq_getElem hi]; rfl
        have hlen : (ks.take i).length = i := by rw [List.length_take]; omega
        refine ⟨rfl, ((((hE'.new _).set hE'.1 _).new _).set (by omega) _), by omega, ?_, ?_, ?_⟩
        · rw [if_neg (by omega), if_neg (by omega), if_neg (by omega)]
        · rw [if_neg (by omega)]
        · rw [htk, appT_snoc, hlen, Nat.zero_add]
          refine ⟨_, by rw [set_get, if_pos rfl], .inr ⟨G'.next + 1, hidF hs i, _, _, _, _, by omega, by show G'.next + 1 < G'.next + 1 + 1; omega, rfl, rfl, ?_, hc, hkT⟩⟩
          rw [set_get, if_neg (by omega), new_get]
          exact if_pos rfl
      · rintro ⟨tm, G⟩ ⟨t3, t6, t9, t33, t34, t35, hE, hnG, k1, k4, hH⟩
        simp only at t3 t6 t9 t33 t34 t35 hE hnG k1 k4 hH
        obtain ⟨G', c, hFz, j0, hc, jn, jo⟩ := hH.frz (tm := tm) (by omega)
        refine ⟨_, hFz, ?_⟩
        rw [List.take_length] at hc
        have hE' : Ext H G' := ⟨by rw [jn]; exact hE.1, fun b hb => (jo b (by omega) (by omega)).trans (hE.2 b hb)⟩
        have k1' : G'.get (H.next + 1) = some (.cells z6) := (jo _ (by omega) (by omega)).trans k1
        have hab : Tm.All TmB (appT hs 0 t ks) := appT_b hkb htb
        generalize hTt : appT hs 0 t ks = u at *
        obtain ⟨ux, vx, hu6, a1, a2, a3, a4, a5, a6, a7, a8⟩ := hc.six
        subst hu6
        simp -implicitDefEqProofs only [go_sem, Nat.reduceEqDiff, Nat.reduceAdd, Nat.reduceLeDiff, ↓reduceIte, reduceCtorEq, Int.reduceBEq, Int.reduceBNe, Int.reduceLT, Int.reduceLE, Int.reduceGT, Int.reduceGE, Int.reduceNeg, Int.reduceAdd, Int.reduceSub, Nat.reduceMul, Nat.reduceLT, Int.reduceToNat, x_seq, x_ops, x_draw, x_block, x_condQ, x_ret, x_skip, x_exit, xc_true, xc_false, xt_normal, xt_ret, xt_exit, xb_normal, xb_exit, xp_ret, t3, t6, t9, t33, t34, t35, Int.lt_irrefl, j0, k1', a1, a2, a3, a4, afill]
        refine i_callA (fs := []) (cs := []) (fid := 24) ?_ ?_ (check_ok canF u (tmb_fine hab) _ hc.1 _) ?_
        · rfl
        · simp -implicitDefEqProofs only [go_sem, Nat.reduceEqDiff, Nat.reduceAdd, Nat.reduceLeDiff, ↓reduceIte, reduceCtorEq, Int.reduceBEq, Int.reduceBNe, Int.reduceLT, Int.reduceLE, Int.reduceGT, Int.reduceGE, Int.reduceNeg, Int.reduceAdd, Int.reduceSub, Nat.reduceMul, Nat.reduceLT, Int.reduceToNat]
        rintro r G3 ⟨rfl, hHH⟩
        have hHH := hHH.symm
        subst hHH
        by_cases hch : checkF canF u = 0
        case neg =>
          simp -implicitDefEqProofs only [go_sem, Nat.reduceEqDiff, Nat.reduceAdd, Nat.reduceLeDiff, ↓reduceIte, reduceCtorEq, Int.reduceBEq, Int.reduceBNe, Int.reduceLT, Int.reduceLE, Int.reduceGT, Int.reduceGE, Int.reduceNeg, Int.reduceAdd, Int.reduceSub, Nat.reduceMul, Nat.reduceLT, Int.reduceToNat, x_seq, x_ops, x_draw, x_block, x_condQ, x_ret, x_skip, xc_true, xc_false, xt_normal, xt_ret, xb_normal, xp_ret, bne' hch, t3, t6, j0, k1', a1, a2, a3, a4, afill]
          exact ⟨hE'.set (by omega) _, _, _, zeroTm, rfl, tmp_zero, fun h => absurd h hch⟩
        rw [hch]
        obtain ⟨hz1, hz2⟩ := check_sz hch
        simp -implicitDefEqProofs only [go_sem, Nat.reduceEqDiff, Nat.reduceAdd, Nat.reduceLeDiff, ↓reduceIte, reduceCtorEq, Int.reduceBEq, Int.reduceBNe, Int.reduceLT, Int.reduceLE, Int.reduceGT, Int.reduceGE, Int.reduceNeg, Int.reduceAdd, Int.reduceSub, Nat.reduceMul, Nat.reduceLT, Int.reduceToNat, x_seq, x_ops, x_draw, x_block, x_condQ, x_ret, x_skip, xc_true, xc_false, xt_normal, xt_ret, xb_normal, xp_ret, t3, t6, j0, k1', a1, a2, a3, a4, afill]
        refine i_callA (fs := []) (cs := []) (fid := 76) ?_ ?_ (copy_ok u hab (by omega) (by omega) _ hc _) ?_
        · rfl
        · simp -implicitDefEqProofs only [go_sem, Nat.reduceEqDiff, Nat.reduceAdd, Nat.reduceLeDiff, ↓reduceIte, reduceCtorEq, Int.reduceBEq, Int.reduceBNe, Int.reduceLT, Int.reduceLE, Int.reduceGT, Int.reduceGE, Int.reduceNeg, Int.reduceAdd, Int.reduceSub, Nat.reduceMul, Nat.reduceLT, Int.reduceToNat]
        rintro r G3 ⟨⟨xc, rfl, hxc⟩, hHH⟩
        have hHH := hHH.symm
        subst hHH
        obtain ⟨az, bz, hk5, u1, u2, u3, u4, u5, u6, u7, u8⟩ := hxc.six
        subst hk5
        simp -implicitDefEqProofs only [go_sem, Nat.reduceEqDiff, Nat.reduceAdd, Nat.reduceLeDiff, ↓reduceIte, reduceCtorEq, Int.reduceBEq, Int.reduceBNe, Int.reduceLT, Int.reduceLE, Int.reduceGT, Int.reduceGE, Int.reduceNeg, Int.reduceAdd, Int.reduceSub, Nat.reduceMul, Nat.reduceLT, Int.reduceToNat, x_seq, x_ops, x_draw, x_block, x_condQ, x_ret, x_skip, xc_true, xc_false, xt_normal, xt_ret, xb_normal, xp_ret, t3, t6, j0, k1', u1, u2, u3, u4, afill]
        exact ⟨hE'.set (by omega) _, _, 0, _, rfl, hxc, fun _ => ⟨hn60, hask, by rw [hTt]; exact hch, by rw [hTt]⟩⟩
  · rintro _ _ r H' ⟨hE, c, e, u, rfl, hc, h2⟩ _
    exact ⟨hE, _, .keep _ (hold hc e), c, e, u, rfl, hc, h2⟩
end Go.Proofs.Ytooaiddfokbffaa.E

/- The law TeleBack, walked. Conditions: none. -/
set_option linter.unusedVariables false
set_option linter.unusedSimpArgs false
namespace Go.Proofs.Ytooaiddfokbffaa.E
open Go Go.Proofs
attribute [local go_sem] s_seq s_ops s_draw s_block s_skip s_ret s_exit i_nil i_cons i_run i_runG s_condQ c_true c_false aop ev_t ev_c updO_at updO_no upd_at t_normal t_ret t_exit b_normal b_ret b_exit a_some ac_v ac_agg ac_ptr ac_slc ac_ro ac_rop ac_fn new_next set_next argTm_zero argTm_succ argTm_nil ab_bool ab_uv beq_self_eq_true Option.some_beq_some Bool.not_not beq_iff_eq decide_true decide_false Bool.not_true Bool.not_false afld aload astore apack alen_str alen_ro alen_slc alen_nil new_get set_get ite_true ite_false Option.map_some Option.bind_some ibin isShift Nat.add_zero Nat.zero_add List.length_cons List.length_nil List.drop_zero List.drop_succ_cons List.take_succ_cons List.take_zero if_true if_false setL List.set_cons_zero List.set_cons_succ List.all_cons List.all_nil one_int one_bool one_str one_nil one_ptr one_slc one_ro one_rop one_fn Bool.and_self Bool.and_true true_and and_true and_self Bool.false_eq_true post_ret post_normal resAll resOne packR Option.some.injEq exists_eq_left' List.map_cons List.map_nil List.nil_append List.append_nil List.cons_append d_nil d_cons k_nil k_cons g_op g_same g_new avBlock forall_eq' List.getElem?_cons_succ List.getElem?_cons_zero List.getElem?_nil okind gOk bne false_imp_iff forall_const imp_self implies_true true_imp_iff i_callG

theorem pis35_ok (hs : List Bool) (ks : List Tm) (t : Tm) (hkb : Tm.AllL TmB ks) (htb : Tm.All TmB t) (hn : ks.length ≤ 4611686018427387904) (x y : AV) (tc : List AV) (H : AHeap) (hx : RowAt ks x H) (hy : HidR hs y) (hT : TmP t tc) :
    SCall Try.prog 35 [x, y, .agg tc] H fun r H' => BindR 3 hs ks t r ∧ H' = H := by
  obtain ⟨lx, kx, hc6, p1, p2, p3, p4, p5, p6, p7, p8⟩ := hT.six
  subst hc6
  have hT' := hT
  refine SCall.frz (R := fun r H' => Ext H H' ∧ BindR 3 hs ks t r) (SCall.intro mixed cf35 ?_) ?_
  · have e1 : ¬ H.next = H.next + 1 := by omega
    have e2 : ¬ H.next + 1 = H.next := by omega
    simp -implicitDefEqProofs only [c35, go_sem, Nat.reduceEqDiff, Nat.reduceAdd, Nat.reduceLeDiff, ↓reduceIte, reduceCtorEq, Int.reduceBEq, Int.reduceBNe, Int.reduceLT, Int.reduceLE, Int.reduceGT, Int.reduceGE, Int.reduceNeg, Int.reduceAdd, Int.reduceSub, Nat.reduceMul, Nat.reduceLT, Int.reduceToNat, afill, e1, e2, p1, p2, p3, p4, hx.one, hx.cells, hy.one, hy.cells]
    refine i_callA (fs := []) (cs := []) (fid := 89) ?_ ?_ (bind_ok 3 hs ks t rng3 hkb htb hn x y _ _ (hx.ext (((Ext.refl H).new _).new _)) hy hT') ?_
    · rfl
    · simp -implicitDefEqProofs only [go_sem, Nat.reduceEqDiff, Nat.reduceAdd, Nat.reduceLeDiff, ↓reduceIte, reduceCtorEq, Int.reduceBEq, Int.reduceBNe, Int.reduceLT, Int.reduceLE, Int.reduceGT, Int.reduceGE, Int.reduceNeg, Int.reduceAdd, Int.reduceSub, Nat.reduceMul, Nat.reduceLT, Int.reduceToNat]
    rintro z H4 ⟨⟨c, e, u, rfl, hc, h1, h2⟩, hHH⟩
    have hHH := hHH.symm
    subst hHH
    obtain ⟨ax, bx, hk8, v1, v2, v3, v4, v5, v6', x7, x8⟩ := hc.six
    subst hk8
    simp -implicitDefEqProofs only [go_sem, Nat.reduceEqDiff, Nat.reduceAdd, Nat.reduceLeDiff, ↓reduceIte, reduceCtorEq, Int.reduceBEq, Int.reduceBNe, Int.reduceLT, Int.reduceLE, Int.reduceGT, Int.reduceGE, Int.reduceNeg, Int.reduceAdd, Int.reduceSub, Nat.reduceMul, Nat.reduceLT, Int.reduceToNat, e1, e2, v1, v2, v3, v4]
    exact ⟨(((Ext.refl H).new _).new _).set (by omega) _, _, e, u, rfl, hc, h1, h2⟩
  · rintro _ _ r H' ⟨hE, c, e, u, rfl, hc, h1, h2⟩ _
    refine ⟨hE, _, .keep _ (.tup _ fun y hy => ?_), c, e, u, rfl, hc, h1, h2⟩
    simp at hy
    rcases hy with rfl | rfl
    · exact .agg _ fun z hz => (hc.2 z hz).mono (Nat.zero_le _)
    · exact .v _

theorem SlR.from {n : Nat} {x : AV} {cs : List AV} (h : SlR n x cs) (es m : Nat) (hm : m ≤ n) : ∃ y cs', aslice es x (some m) none none = some y ∧ SlR (n - m) y cs' ∧ (n - m = 0 ∨ cs' = cs.drop (m * es)) ∧ ∀ k, Old k x → Old k y := by
  rcases h with ⟨rfl, rfl⟩ | ⟨lo, ex, rfl, hlo⟩
  · have : m = 0 := by omega
    subst this
    exact ⟨nils, [], by simp [aslice], .inl ⟨rfl, rfl⟩, .inl rfl, fun _ h => h⟩
  · have hmx : max n lo = lo := by omega
    by_cases h0 : 0 < lo - m
    · refine ⟨.ro (n - m) (lo - m) ex (cs.drop (m * es)), _, ?_, .inr ⟨_, _, rfl, by omega⟩, .inr rfl, fun k hk => ?_⟩
      · simp [aslice, acut, hmx, hm, hlo, h0]
      · cases hk with | ro _ _ _ _ h => exact .ro _ _ _ _ fun z hz => h z (List.mem_of_mem_drop hz)
    · refine ⟨.ro 0 0 ex [], [], ?_, .inr ⟨0, ex, by rw [show n - m = 0 by omega], by omega⟩, .inl (by omega), fun k _ => .ro _ _ _ _ fun z hz => by cases hz⟩
      simp [aslice, acut, hmx, hm, hlo, h0]

theorem KsR.dropR : ∀ {ks : List Tm} {cs : List AV} (m : Nat), KsR ks cs → KsR (ks.drop m) (cs.drop (m * 6))
  | ks, cs, 0, h => by simpa using h
  | [], cs, m + 1, h => trivial
  | k :: r, cs, m + 1, h => by
    simp only [KsR] at h
    have := h.2.dropR m
    rw [List.drop_succ_cons, show (m + 1) * 6 = 6 + m * 6 by omega, ← List.drop_drop]
    exact this

set_option maxRecDepth 100000 in
theorem law_back (ks : List Tm) (hkb : Tm.AllL TmB ks) (hkn : ks.length ≤ 4611686018427387904) (x : AV) (hx : SlK ks x) (hs : List Bool) (y : AV) (hy : HidR hs y) (t : Tm) (htb : Tm.All TmB t) (tc : List AV) (hT : TmR t tc) (ot : ∀ y ∈ tc, Old 0 y) (H : AHeap) :
    SCall Try.prog 6 [x, y, .agg tc] H fun x H' => x = abl true ∧ H' = H := by
  have hTP : TmP t tc := ⟨hT, ot⟩
  obtain ⟨lx, kx, hc6, p1, p2, p3, p4, p5, p6, p7, p8⟩ := hTP.six
  subst hc6
  obtain ⟨xcs, hx1, hx2, hx3⟩ := hx.row
  have hxl := hx1.alen
  refine SCall.val (SCall.intro mixed cf6 ?_)
  simp -implicitDefEqProofs only [c6, go_sem, Nat.reduceEqDiff, Nat.reduceAdd, Nat.reduceLeDiff, ↓reduceIte, reduceCtorEq, Int.reduceBEq, Int.reduceBNe, Int.reduceLT, Int.reduceLE, Int.reduceGT, Int.reduceGE, Int.reduceNeg, Int.reduceAdd, Int.reduceSub, Nat.reduceMul, Nat.reduceLT, Int.reduceToNat, p1, p2, p3, p4, hx1.one, hx1.cells, hy.one, hy.cells]
  refine i_callA (fs := []) (cs := []) (fid := 28) ?_ ?_ (aliveSp _) ?_
  · rfl
  · simp -implicitDefEqProofs only [go_sem, Nat.reduceEqDiff, Nat.reduceAdd, Nat.reduceLeDiff, ↓reduceIte, reduceCtorEq, Int.reduceBEq, Int.reduceBNe, Int.reduceLT, Int.reduceLE, Int.reduceGT, Int.reduceGE, Int.reduceNeg, Int.reduceAdd, Int.reduceSub, Nat.reduceMul, Nat.reduceLT, Int.reduceToNat]
  rintro r H3 ⟨rfl, rfl⟩
  simp -implicitDefEqProofs only [go_sem, Nat.reduceEqDiff, Nat.reduceAdd, Nat.reduceLeDiff, ↓reduceIte, reduceCtorEq, Int.reduceBEq, Int.reduceBNe, Int.reduceLT, Int.reduceLE, Int.reduceGT, Int.reduceGE, Int.reduceNeg, Int.reduceAdd, Int.reduceSub, Nat.reduceMul, Nat.reduceLT, Int.reduceToNat, p1, p2, p3, p4, hx1.one, hx1.cells, hy.one, hy.cells]
  refine i_callA (fs := []) (cs := []) (fid := 34) ?_ ?_ (bigL_ok ks hkb x xcs hx1 hx2 hkn _) ?_
  · rfl
  · simp -implicitDefEqProofs only [go_sem, Nat.reduceEqDiff, Nat.reduceAdd, Nat.reduceLeDiff, ↓reduceIte, reduceCtorEq, Int.reduceBEq, Int.reduceBNe, Int.reduceLT, Int.reduceLE, Int.reduceGT, Int.reduceGE, Int.reduceNeg, Int.reduceAdd, Int.reduceSub, Nat.reduceMul, Nat.reduceLT, Int.reduceToNat]
  rintro r H3 ⟨rfl, rfl⟩
  cases hb1 : bigL ks with
  | true =>
    simp -implicitDefEqProofs only [go_sem, Nat.reduceEqDiff, Nat.reduceAdd, Nat.reduceLeDiff, ↓reduceIte, reduceCtorEq, Int.reduceBEq, Int.reduceBNe, Int.reduceLT, Int.reduceLE, Int.reduceGT, Int.reduceGE, Int.reduceNeg, Int.reduceAdd, Int.reduceSub, Nat.reduceMul, Nat.reduceLT, Int.reduceToNat, p1, p2, p3, p4, hx1.one, hx1.cells, hy.one, hy.cells]
    exact (Ext.refl H).new _
  | false =>
  simp -implicitDefEqProofs only [go_sem, Nat.reduceEqDiff, Nat.reduceAdd, Nat.reduceLeDiff, ↓reduceIte, reduceCtorEq, Int.reduceBEq, Int.reduceBNe, Int.reduceLT, Int.reduceLE, Int.reduceGT, Int.reduceGE, Int.reduceNeg, Int.reduceAdd, Int.reduceSub, Nat.reduceMul, Nat.reduceLT, Int.reduceToNat, p1, p2, p3, p4, hx1.one, hx1.cells, hy.one, hy.cells]
  refine i_callA (fs := []) (cs := []) (fid := 15) ?_ ?_ (big_ok t htb _ hT _) ?_
  · rfl
  · simp -implicitDefEqProofs only [go_sem, Nat.reduceEqDiff, Nat.reduceAdd, Nat.reduceLeDiff, ↓reduceIte, reduceCtorEq, Int.reduceBEq, Int.reduceBNe, Int.reduceLT, Int.reduceLE, Int.reduceGT, Int.reduceGE, Int.reduceNeg, Int.reduceAdd, Int.reduceSub, Nat.reduceMul, Nat.reduceLT, Int.reduceToNat]
  rintro r H3 ⟨rfl, rfl⟩
  cases hb2 : bigF t with
  | true =>
    simp -implicitDefEqProofs only [go_sem, Nat.reduceEqDiff, Nat.reduceAdd, Nat.reduceLeDiff, ↓reduceIte, reduceCtorEq, Int.reduceBEq, Int.reduceBNe, Int.reduceLT, Int.reduceLE, Int.reduceGT, Int.reduceGE, Int.reduceNeg, Int.reduceAdd, Int.reduceSub, Nat.reduceMul, Nat.reduceLT, Int.reduceToNat, p1, p2, p3, p4, hx1.one, hx1.cells, hy.one, hy.cells]
    exact (Ext.refl H).new _
  | false =>
  by_cases h20 : (ks.length : Int) > 20
  case pos =>
    simp -implicitDefEqProofs only [go_sem, Nat.reduceEqDiff, Nat.reduceAdd, Nat.reduceLeDiff, ↓reduceIte, reduceCtorEq, Int.reduceBEq, Int.reduceBNe, Int.reduceLT, Int.reduceLE, Int.reduceGT, Int.reduceGE, Int.reduceNeg, Int.reduceAdd, Int.reduceSub, Nat.reduceMul, Nat.reduceLT, Int.reduceToNat, p1, p2, p3, p4, hx1.one, hx1.cells, hy.one, hy.cells, hxl, h20]
    exact (Ext.refl H).new _
  simp -implicitDefEqProofs only [go_sem, Nat.reduceEqDiff, Nat.reduceAdd, Nat.reduceLeDiff, ↓reduceIte, reduceCtorEq, Int.reduceBEq, Int.reduceBNe, Int.reduceLT, Int.reduceLE, Int.reduceGT, Int.reduceGE, Int.reduceNeg, Int.reduceAdd, Int.reduceSub, Nat.reduceMul, Nat.reduceLT, Int.reduceToNat, p1, p2, p3, p4, hx1.one, hx1.cells, hy.one, hy.cells, hxl, h20]
  generalize hG0 : (H.new (.cells [aint t.form, aint t.n, abl t.hid, .v (.string t.name), lx, kx])) = G0
  have hE : Ext H G0 := by rw [← hG0]; exact (Ext.refl H).new _
  have at1 : At G0 H.next (.cells [aint t.form, aint t.n, abl t.hid, .v (.string t.name), lx, kx]) := ⟨by rw [← hG0]; simp -implicitDefEqProofs only [go_sem, Nat.reduceEqDiff, Nat.reduceAdd, Nat.reduceLeDiff, ↓reduceIte, reduceCtorEq, Int.reduceBEq, Int.reduceBNe, Int.reduceLT, Int.reduceLE, Int.reduceGT, Int.reduceGE, Int.reduceNeg, Int.reduceAdd, Int.reduceSub, Nat.reduceMul, Nat.reduceLT, Int.reduceToNat], by rw [← hG0]; simp only [new_next]; omega⟩
  clear hG0
  refine i_callA (fs := []) (cs := []) (fid := 35) ?_ ?_ (pis35_ok hs ks t hkb htb hkn x y _ G0 (RowAt.ro hx G0) hy hTP) ?_
  · rfl
  · simp -implicitDefEqProofs only [go_sem, Nat.reduceEqDiff, Nat.reduceAdd, Nat.reduceLeDiff, ↓reduceIte, reduceCtorEq, Int.reduceBEq, Int.reduceBNe, Int.reduceLT, Int.reduceLE, Int.reduceGT, Int.reduceGE, Int.reduceNeg, Int.reduceAdd, Int.reduceSub, Nat.reduceMul, Nat.reduceLT, Int.reduceToNat]
  rintro r H3 ⟨⟨c, e, u, rfl, hcu, k1, k2⟩, hHH⟩
  have hHH := hHH.symm
  subst hHH
  obtain ⟨au, bu, hu6, u1, u2, u3, u4, u5, u6, u7, u8⟩ := hcu.six
  subst hu6
  simp -implicitDefEqProofs only [go_sem, Nat.reduceEqDiff, Nat.reduceAdd, Nat.reduceLeDiff, ↓reduceIte, reduceCtorEq, Int.reduceBEq, Int.reduceBNe, Int.reduceLT, Int.reduceLE, Int.reduceGT, Int.reduceGE, Int.reduceNeg, Int.reduceAdd, Int.reduceSub, Nat.reduceMul, Nat.reduceLT, Int.reduceToNat, p1, p2, p3, p4, at1.1, Nat.ne_of_lt at1.2, u1, u2, u3, u4]
  have hX : Ext G0 ((G0.new (.cells z6)).set G0.next (.cells [aint u.form, aint u.n, abl u.hid, .v (.string u.name), au, bu])) := Ext.put1 _ _ _
  have at9 : At ((G0.new (.cells z6)).set G0.next (.cells [aint u.form, aint u.n, abl u.hid, .v (.string u.name), au, bu])) G0.next (.cells [aint u.form, aint u.n, abl u.hid, .v (.string u.name), au, bu]) := At.put _ _ _
  have at1 := at1.ext hX
  have hE := hE.trans hX
  clear hX
  generalize hb9 : G0.next = b9 at *
  generalize (G0.new (.cells z6)).set b9 (.cells [aint u.form, aint u.n, abl u.hid, .v (.string u.name), au, bu]) = G1 at *
  refine i_callA (fs := []) (cs := []) (fid := 36) ?_ ?_ (id36_ok e _) ?_
  · rfl
  · simp -implicitDefEqProofs only [go_sem, Nat.reduceEqDiff, Nat.reduceAdd, Nat.reduceLeDiff, ↓reduceIte, reduceCtorEq, Int.reduceBEq, Int.reduceBNe, Int.reduceLT, Int.reduceLE, Int.reduceGT, Int.reduceGE, Int.reduceNeg, Int.reduceAdd, Int.reduceSub, Nat.reduceMul, Nat.reduceLT, Int.reduceToNat]
  rintro r H3 ⟨rfl, hHH⟩
  have hHH := hHH.symm
  subst hHH
  by_cases he : e = 0
  case neg =>
    simp -implicitDefEqProofs only [go_sem, Nat.reduceEqDiff, Nat.reduceAdd, Nat.reduceLeDiff, ↓reduceIte, reduceCtorEq, Int.reduceBEq, Int.reduceBNe, Int.reduceLT, Int.reduceLE, Int.reduceGT, Int.reduceGE, Int.reduceNeg, Int.reduceAdd, Int.reduceSub, Nat.reduceMul, Nat.reduceLT, Int.reduceToNat, bne' he]
    exact hE
  subst he
  obtain ⟨hn60, hask, hchk, rfl⟩ := k2 rfl
  have hall := askF_all hask
  have hct : checkF canF t = 0 := hall t (by simp)
  have htel : Tm.All TmB (telT 3 hs 0 ks t) := telT_b rng3 hkb htb
  have hcc : checkF canF (cleanT (telT 3 hs 0 ks t)) = 0 := by rw [check_clean]; exact hchk
  have hpi := piN_tel hs ks 0 t
  generalize hut : cleanT (telT 3 hs 0 ks t) = u at *
  have hub : Tm.All TmB u := by rw [← hut]; exact tmb_clean _ htel
  simp -implicitDefEqProofs only [go_sem, Nat.reduceEqDiff, Nat.reduceAdd, Nat.reduceLeDiff, ↓reduceIte, reduceCtorEq, Int.reduceBEq, Int.reduceBNe, Int.reduceLT, Int.reduceLE, Int.reduceGT, Int.reduceGE, Int.reduceNeg, Int.reduceAdd, Int.reduceSub, Nat.reduceMul, Nat.reduceLT, Int.reduceToNat, p1, p2, p3, p4, at1.1, Nat.ne_of_lt at1.2, at9.1, Nat.ne_of_lt at9.2, u1, u2, u3, u4, hxl]
  refine i_callA (fs := []) (cs := []) (fid := 37) ?_ ?_ (split_ok u hub hcc _ hcu ks.length hkn _) ?_
  · rfl
  · simp -implicitDefEqProofs only [go_sem, Nat.reduceEqDiff, Nat.reduceAdd, Nat.reduceLeDiff, ↓reduceIte, reduceCtorEq, Int.reduceBEq, Int.reduceBNe, Int.reduceLT, Int.reduceLE, Int.reduceGT, Int.reduceGE, Int.reduceNeg, Int.reduceAdd, Int.reduceSub, Nat.reduceMul, Nat.reduceLT, Int.reduceToNat]
  rw [hpi]
  rintro r H3 ⟨⟨xs, ys, c, ok, rfl, hxs, hys, hc, rfl⟩, hHH⟩
  have hHH := hHH.symm
  subst hHH
  rw [hidL_fst, clean_cleanK] at hxs
  rw [clean_clean] at hc
  have hyl : (List.map (·.2) (hidL hs 0 (cleanK ks))).length = ks.length := by rw [List.length_map, hidL_len, cleanK_len]
  have hysl := hys.alen
  rw [hyl] at hysl
  obtain ⟨xscs, hs1, hs2, hs3⟩ := hxs.row
  rw [cleanK_len] at hs1
  obtain ⟨av, bv, hv6, v1, v2, v3, v4, v5, v6, v7, v8⟩ := hc.six
  subst hv6
  simp -implicitDefEqProofs only [go_sem, Nat.reduceEqDiff, Nat.reduceAdd, Nat.reduceLeDiff, ↓reduceIte, reduceCtorEq, Int.reduceBEq, Int.reduceBNe, Int.reduceLT, Int.reduceLE, Int.reduceGT, Int.reduceGE, Int.reduceNeg, Int.reduceAdd, Int.reduceSub, Nat.reduceMul, Nat.reduceLT, Int.reduceToNat, p1, p2, p3, p4, at1.1, Nat.ne_of_lt at1.2, at9.1, Nat.ne_of_lt at9.2, u1, u2, u3, u4, hxl, v1, v2, v3, v4, hs1.one, hs1.cells, hys.one, hys.cells]
  have hX : Ext G1 ((G1.new (.cells z6)).set G1.next (.cells [aint (cleanT t).form, aint (cleanT t).n, abl (cleanT t).hid, .v (.string (cleanT t).name), av, bv])) := Ext.put1 _ _ _
  have at13 : At ((G1.new (.cells z6)).set G1.next (.cells [aint (cleanT t).form, aint (cleanT t).n, abl (cleanT t).hid, .v (.string (cleanT t).name), av, bv])) G1.next (.cells [aint (cleanT t).form, aint (cleanT t).n, abl (cleanT t).hid, .v (.string (cleanT t).name), av, bv]) := At.put _ _ _
  have at1 := at1.ext hX
  have hE := hE.trans hX
  clear hX at9
  generalize hb13 : G1.next = b13 at *
  generalize (G1.new (.cells z6)).set b13 (.cells [aint (cleanT t).form, aint (cleanT t).n, abl (cleanT t).hid, .v (.string (cleanT t).name), av, bv]) = G2 at *
  refine i_callA (fs := []) (cs := []) (fid := 33) ?_ ?_ (sameL_ok ks hkb xs xscs hs1 hs2 x xcs hx1 hx2 hx3 hkn _) ?_
  · rfl
  · simp -implicitDefEqProofs only [go_sem, Nat.reduceEqDiff, Nat.reduceAdd, Nat.reduceLeDiff, ↓reduceIte, reduceCtorEq, Int.reduceBEq, Int.reduceBNe, Int.reduceLT, Int.reduceLE, Int.reduceGT, Int.reduceGE, Int.reduceNeg, Int.reduceAdd, Int.reduceSub, Nat.reduceMul, Nat.reduceLT, Int.reduceToNat]
  rintro r H3 ⟨rfl, hHH⟩
  have hHH := hHH.symm
  subst hHH
  simp -implicitDefEqProofs only [go_sem, Nat.reduceEqDiff, Nat.reduceAdd, Nat.reduceLeDiff, ↓reduceIte, reduceCtorEq, Int.reduceBEq, Int.reduceBNe, Int.reduceLT, Int.reduceLE, Int.reduceGT, Int.reduceGE, Int.reduceNeg, Int.reduceAdd, Int.reduceSub, Nat.reduceMul, Nat.reduceLT, Int.reduceToNat, p1, p2, p3, p4, at1.1, Nat.ne_of_lt at1.2, at13.1, Nat.ne_of_lt at13.2, hxl, v1, v2, v3, v4, hs1.one, hs1.cells, hys.one, hys.cells, hysl, g_opG]
  refine i_callA (fs := []) (cs := []) (fid := 32) ?_ ?_ (clean_ok t htb _ hTP _) ?_
  · rfl
  · simp -implicitDefEqProofs only [go_sem, Nat.reduceEqDiff, Nat.reduceAdd, Nat.reduceLeDiff, ↓reduceIte, reduceCtorEq, Int.reduceBEq, Int.reduceBNe, Int.reduceLT, Int.reduceLE, Int.reduceGT, Int.reduceGE, Int.reduceNeg, Int.reduceAdd, Int.reduceSub, Nat.reduceMul, Nat.reduceLT, Int.reduceToNat]
  rintro r H3 ⟨⟨cw, rfl, hcw⟩, hHH⟩
  have hHH := hHH.symm
  subst hHH
  simp -implicitDefEqProofs only [go_sem, Nat.reduceEqDiff, Nat.reduceAdd, Nat.reduceLeDiff, ↓reduceIte, reduceCtorEq, Int.reduceBEq, Int.reduceBNe, Int.reduceLT, Int.reduceLE, Int.reduceGT, Int.reduceGE, Int.reduceNeg, Int.reduceAdd, Int.reduceSub, Nat.reduceMul, Nat.reduceLT, Int.reduceToNat, p1, p2, p3, p4, at1.1, Nat.ne_of_lt at1.2, at13.1, Nat.ne_of_lt at13.2, hxl, v1, v2, v3, v4, hs1.one, hs1.cells, hys.one, hys.cells, hysl, g_opG]
  refine i_callA (fs := []) (cs := []) (fid := 22) ?_ ?_ (exact_ok (cleanT t) (tmb_clean _ htb) _ _ hc.1 hcw.1 _) ?_
  · rfl
  · simp -implicitDefEqProofs only [go_sem, Nat.reduceEqDiff, Nat.reduceAdd, Nat.reduceLeDiff, ↓reduceIte, reduceCtorEq, Int.reduceBEq, Int.reduceBNe, Int.reduceLT, Int.reduceLE, Int.reduceGT, Int.reduceGE, Int.reduceNeg, Int.reduceAdd, Int.reduceSub, Nat.reduceMul, Nat.reduceLT, Int.reduceToNat]
  rintro r H3 ⟨rfl, hHH⟩
  have hHH := hHH.symm
  subst hHH
  simp -implicitDefEqProofs only [go_sem, Nat.reduceEqDiff, Nat.reduceAdd, Nat.reduceLeDiff, ↓reduceIte, reduceCtorEq, Int.reduceBEq, Int.reduceBNe, Int.reduceLT, Int.reduceLE, Int.reduceGT, Int.reduceGE, Int.reduceNeg, Int.reduceAdd, Int.reduceSub, Nat.reduceMul, Nat.reduceLT, Int.reduceToNat, p1, p2, p3, p4, at1.1, Nat.ne_of_lt at1.2, at13.1, Nat.ne_of_lt at13.2, hxl, v1, v2, v3, v4, hs1.one, hs1.cells, hys.one, hys.cells, hysl, g_opG]
  refine i_callA (fs := []) (cs := []) (fid := 38) ?_ ?_ (apply_ok hs ks t hkb htb hkn x y _ G2 (RowAt.ro hx G2) hy hTP) ?_
  · rfl
  · simp -implicitDefEqProofs only [go_sem, Nat.reduceEqDiff, Nat.reduceAdd, Nat.reduceLeDiff, ↓reduceIte, reduceCtorEq, Int.reduceBEq, Int.reduceBNe, Int.reduceLT, Int.reduceLE, Int.reduceGT, Int.reduceGE, Int.reduceNeg, Int.reduceAdd, Int.reduceSub, Nat.reduceMul, Nat.reduceLT, Int.reduceToNat]
  rintro r H3 ⟨⟨ca, e, w, rfl, hca, hw⟩, hHH⟩
  have hHH := hHH.symm
  subst hHH
  obtain ⟨aw, bw, hw6, w1, w2, w3, w4, w5, w6, w7, w8⟩ := hca.six
  subst hw6
  simp -implicitDefEqProofs only [go_sem, Nat.reduceEqDiff, Nat.reduceAdd, Nat.reduceLeDiff, ↓reduceIte, reduceCtorEq, Int.reduceBEq, Int.reduceBNe, Int.reduceLT, Int.reduceLE, Int.reduceGT, Int.reduceGE, Int.reduceNeg, Int.reduceAdd, Int.reduceSub, Nat.reduceMul, Nat.reduceLT, Int.reduceToNat, p1, p2, p3, p4, at1.1, Nat.ne_of_lt at1.2, w1, w2, w3, w4, hxl]
  have hX : Ext G2 ((G2.new (.cells z6)).set G2.next (.cells [aint w.form, aint w.n, abl w.hid, .v (.string w.name), aw, bw])) := Ext.put1 _ _ _
  have at15 : At ((G2.new (.cells z6)).set G2.next (.cells [aint w.form, aint w.n, abl w.hid, .v (.string w.name), aw, bw])) G2.next (.cells [aint w.form, aint w.n, abl w.hid, .v (.string w.name), aw, bw]) := At.put _ _ _
  have at1 := at1.ext hX
  have hE := hE.trans hX
  clear hX at13
  generalize hb15 : G2.next = b15 at *
  generalize (G2.new (.cells z6)).set b15 (.cells [aint w.form, aint w.n, abl w.hid, .v (.string w.name), aw, bw]) = G3 at *
  refine i_callA (fs := []) (cs := []) (fid := 36) ?_ ?_ (id36_ok e _) ?_
  · rfl
  · simp -implicitDefEqProofs only [go_sem, Nat.reduceEqDiff, Nat.reduceAdd, Nat.reduceLeDiff, ↓reduceIte, reduceCtorEq, Int.reduceBEq, Int.reduceBNe, Int.reduceLT, Int.reduceLE, Int.reduceGT, Int.reduceGE, Int.reduceNeg, Int.reduceAdd, Int.reduceSub, Nat.reduceMul, Nat.reduceLT, Int.reduceToNat]
  rintro r H3 ⟨rfl, hHH⟩
  have hHH := hHH.symm
  subst hHH
  by_cases he : e = 0
  case neg =>
    simp -implicitDefEqProofs only [go_sem, Nat.reduceEqDiff, Nat.reduceAdd, Nat.reduceLeDiff, ↓reduceIte, reduceCtorEq, Int.reduceBEq, Int.reduceBNe, Int.reduceLT, Int.reduceLE, Int.reduceGT, Int.reduceGE, Int.reduceNeg, Int.reduceAdd, Int.reduceSub, Nat.reduceMul, Nat.reduceLT, Int.reduceToNat, bne' he]
    exact hE
  subst he
  obtain ⟨hn60', hask', hchk', rfl⟩ := hw rfl
  have hcw : checkF canF (cleanT (appT hs 0 t ks)) = 0 := by rw [check_clean]; exact hchk'
  have hwb : Tm.All TmB (cleanT (appT hs 0 t ks)) := tmb_clean _ (appT_b hkb htb)
  have hsp : (spT (cleanT (appT hs 0 t ks))).map (·.1) = cleanK ((spT t).map (·.1)) ++ cleanK ks := by
    rw [spT_appT, List.map_append, spT_clean, hidL_fst]
  have hsl : cleanK ((spT (cleanT (appT hs 0 t ks))).map (·.1)) = cleanK ((spT t).map (·.1)) ++ cleanK ks := by
    rw [hsp, cleanK_app, clean_cleanK, clean_cleanK]
  have hsn : (spT t).length ≤ 20000 := Nat.le_trans (spT_len t) (check_sz hct).1
  generalize hwt : cleanT (appT hs 0 t ks) = w at *
  simp -implicitDefEqProofs only [go_sem, Nat.reduceEqDiff, Nat.reduceAdd, Nat.reduceLeDiff, ↓reduceIte, reduceCtorEq, Int.reduceBEq, Int.reduceBNe, Int.reduceLT, Int.reduceLE, Int.reduceGT, Int.reduceGE, Int.reduceNeg, Int.reduceAdd, Int.reduceSub, Nat.reduceMul, Nat.reduceLT, Int.reduceToNat, p1, p2, p3, p4, at1.1, Nat.ne_of_lt at1.2, at15.1, Nat.ne_of_lt at15.2, w1, w2, w3, w4, hxl]
  refine i_callA (fs := []) (cs := []) (fid := 30) ?_ ?_ (spine_ok w hwb hcw _ hca _) ?_
  · rfl
  · simp -implicitDefEqProofs only [go_sem, Nat.reduceEqDiff, Nat.reduceAdd, Nat.reduceLeDiff, ↓reduceIte, reduceCtorEq, Int.reduceBEq, Int.reduceBNe, Int.reduceLT, Int.reduceLE, Int.reduceGT, Int.reduceGE, Int.reduceNeg, Int.reduceAdd, Int.reduceSub, Nat.reduceMul, Nat.reduceLT, Int.reduceToNat]
  rw [hsl]
  rintro r H3 ⟨⟨c, xs', ys', rfl, hc', hxs', hys'⟩, hHH⟩
  have hHH := hHH.symm
  subst hHH
  obtain ⟨ax, bx, hx6, x1, x2, x3, x4, x5, x6, x7, x8⟩ := hc'.six
  subst hx6
  obtain ⟨xsc, j1, j2, j3⟩ := hxs'.row
  have hjl := j1.alen
  rw [List.length_append, cleanK_len, cleanK_len, List.length_map] at j1 hjl
  simp -implicitDefEqProofs only [go_sem, Nat.reduceEqDiff, Nat.reduceAdd, Nat.reduceLeDiff, ↓reduceIte, reduceCtorEq, Int.reduceBEq, Int.reduceBNe, Int.reduceLT, Int.reduceLE, Int.reduceGT, Int.reduceGE, Int.reduceNeg, Int.reduceAdd, Int.reduceSub, Nat.reduceMul, Nat.reduceLT, Int.reduceToNat, p1, p2, p3, p4, at1.1, Nat.ne_of_lt at1.2, x1, x2, x3, x4, hxl, j1.one, j1.cells]
  have hX : Ext G3 ((G3.new (.cells z6)).set G3.next (.cells [aint (cleanT (hdT w)).form, aint (cleanT (hdT w)).n, abl (cleanT (hdT w)).hid, .v (.string (cleanT (hdT w)).name), ax, bx])) := Ext.put1 _ _ _
  have at17 : At ((G3.new (.cells z6)).set G3.next (.cells [aint (cleanT (hdT w)).form, aint (cleanT (hdT w)).n, abl (cleanT (hdT w)).hid, .v (.string (cleanT (hdT w)).name), ax, bx])) G3.next (.cells [aint (cleanT (hdT w)).form, aint (cleanT (hdT w)).n, abl (cleanT (hdT w)).hid, .v (.string (cleanT (hdT w)).name), ax, bx]) := At.put _ _ _
  have at1 := at1.ext hX
  have hE := hE.trans hX
  clear hX at15
  generalize hb17 : G3.next = b17 at *
  generalize (G3.new (.cells z6)).set b17 (.cells [aint (cleanT (hdT w)).form, aint (cleanT (hdT w)).n, abl (cleanT (hdT w)).hid, .v (.string (cleanT (hdT w)).name), ax, bx]) = G4 at *
  refine i_callA (fs := []) (cs := []) (fid := 31) ?_ ?_ (spine2_ok t (form_ap canF t (check_form hct).2) (check_sz hct).1 _ hTP _) ?_
  · rfl
  · simp -implicitDefEqProofs only [go_sem, Nat.reduceEqDiff, Nat.reduceAdd, Nat.reduceLeDiff, ↓reduceIte, reduceCtorEq, Int.reduceBEq, Int.reduceBNe, Int.reduceLT, Int.reduceLE, Int.reduceGT, Int.reduceGE, Int.reduceNeg, Int.reduceAdd, Int.reduceSub, Nat.reduceMul, Nat.reduceLT, Int.reduceToNat]
  rintro r H3 ⟨⟨c, xo, yo, rfl, hco, hxo, hyo⟩, hHH⟩
  have hHH := hHH.symm
  subst hHH
  obtain ⟨ao, bo, ho6, o1, o2, o3, o4, o5, o6, o7, o8⟩ := hco.six
  subst ho6
  obtain ⟨xoc, q1, q2, q3⟩ := hxo.row
  have hql := q1.alen
  rw [List.length_map] at q1 hql
  have hnn : (0 : Int) ≤ ((spT t).length : Int) := by omega
  obtain ⟨z, zc, hz, hzr, hzc, hzo⟩ := j1.from 6 (spT t).length (by omega)
  rw [Nat.add_sub_cancel_left] at hzr hzc
  have hzk : KsR (cleanK ks) zc := by
    rcases hzc with h0 | rfl
    · have : ks = [] := List.length_eq_zero_iff.1 h0
      subst this
      exact trivial
    · have := j2.dropR (spT t).length
      rwa [List.drop_append_of_le_length (by rw [cleanK_len, List.length_map]; exact Nat.le_refl _), List.drop_eq_nil_of_le (by rw [cleanK_len, List.length_map]; exact Nat.le_refl _), List.nil_append] at this
  have hsum : IntKind.i64.wrap (((spT t).length : Int) + (ks.length : Int)) = ((spT t).length : Int) + (ks.length : Int) := i64_ok _ (by omega)
  have hcast : (((spT t).length + ks.length : Nat) : Int) = ((spT t).length : Int) + (ks.length : Int) := by omega
  simp -implicitDefEqProofs only [go_sem, Nat.reduceEqDiff, Nat.reduceAdd, Nat.reduceLeDiff, ↓reduceIte, reduceCtorEq, Int.reduceBEq, Int.reduceBNe, Int.reduceLT, Int.reduceLE, Int.reduceGT, Int.reduceGE, Int.reduceNeg, Int.reduceAdd, Int.reduceSub, Nat.reduceMul, Nat.reduceLT, Int.reduceToNat, p1, p2, p3, p4, at1.1, Nat.ne_of_lt at1.2, o1, o2, o3, o4, hxl, j1.one, j1.cells, q1.one, q1.cells, hjl, hql, hsum, hcast, hz, anat, Option.map_none, Int.toNat_natCast, hnn]
  refine i_callA (fs := []) (cs := []) (fid := 33) ?_ ?_ (sameL_ok ks hkb z zc hzr hzk x xcs hx1 hx2 hx3 hkn _) ?_
  · rfl
  · simp -implicitDefEqProofs only [go_sem, Nat.reduceEqDiff, Nat.reduceAdd, Nat.reduceLeDiff, ↓reduceIte, reduceCtorEq, Int.reduceBEq, Int.reduceBNe, Int.reduceLT, Int.reduceLE, Int.reduceGT, Int.reduceGE, Int.reduceNeg, Int.reduceAdd, Int.reduceSub, Nat.reduceMul, Nat.reduceLT, Int.reduceToNat]
  rintro r H3 ⟨rfl, hHH⟩
  have hHH := hHH.symm
  subst hHH
  simp -implicitDefEqProofs only [go_sem, Nat.reduceEqDiff, Nat.reduceAdd, Nat.reduceLeDiff, ↓reduceIte, reduceCtorEq, Int.reduceBEq, Int.reduceBNe, Int.reduceLT, Int.reduceLE, Int.reduceGT, Int.reduceGE, Int.reduceNeg, Int.reduceAdd, Int.reduceSub, Nat.reduceMul, Nat.reduceLT, Int.reduceToNat]
  exact (hE.new _).set hE.1 _
end Go.Proofs.Ytooaiddfokbffaa.E

/- A slice of terms and one of truths of the input; TeleBack's law as its row asks. Conditions: none. -/
set_option linter.unusedVariables false
set_option linter.unusedSimpArgs false
namespace Go.Proofs.Ytooaiddfokbffaa.E
open Go Go.Proofs

section
open Go.ChangeShapes Go.WideShapes Go.ChangeAt Go.RowKit
variable {H : Type} {enc : TypeId × Value → H} {w : World} {base : Nat} {sp : Nat → Bool} {held : Bool}

def KsB (ks : List Tm) : Prop := ks.length * 88 ≤ 140737488351232 ∧ Tm.AllL TmB ks
set_option maxRecDepth 100000 in
theorem terms_arg {r : Reach} {b0 : Nat} {v : Value} {d : DataW H} {ps : List MemPlace} (hval : Value.okWide Try.prog w r b0 23 v) (h : DataW.Trod enc Try.prog w base sp held 23 v d ps) (hw : Wt Try.prog 23 d) :
    ∃ (ks : List Tm) (y : AV), KsB ks ∧ SlK ks y ∧ Old 0 y ∧ VRel Emb.empty w y v := by
  obtain ⟨a0, len0, cap0, rfl⟩ := okWide_slice Try.underlying23 hval
  obtain ⟨fuel, hf⟩ := h
  cases fuel with
  | zero => simp [DataW.trod] at hf
  | succ fuel =>
  have hf' : DataW.trod enc Try.prog w base sp held (fuel + 1) 23 [.slice a0 len0 cap0] = some (d, ps) := hf
  have key : ∃ (ks : List Tm) (y : AV), KsB ks ∧ (∃ cs, SlR ks.length y cs ∧ KsR ks cs) ∧ VRel Emb.empty w y (.slice a0 len0 cap0) := by
    rcases trod_slice Try.underlying23 hf' hw with hv | ⟨ad, len, cap, us, hv, k1, k2, k3, k4, k5, kb⟩
    · rw [hv]
      exact ⟨[], nils, ⟨by simp, trivial⟩, ⟨[], .inl ⟨rfl, rfl⟩, trivial⟩, .v _ rfl⟩
    · rw [hv]
      rw [cells25] at k3 k5
      rw [bytes25, reach_eq] at kb
      obtain ⟨ks, cs', q1, q2, q3⟩ := rl_of (c := 6) (R := fun (t : Tm) ys => Tm.All TmB t ∧ TmR t ys) len us k3 (fun i hi => by
        obtain ⟨d', p', k6, kw⟩ := k5 i hi
        obtain ⟨t, ys, k7, k8, k9⟩ := trod_tm fuel _ _ _ k6 kw
        exact ⟨t, ys, ⟨k7, k8⟩, k9⟩)
      obtain ⟨q4, q5⟩ := ks_of_rl q3
      exact ⟨ks, .ro len cap false cs', ⟨by omega, q5⟩, ⟨cs', .inr ⟨cap, false, by rw [q1], by omega⟩, q4⟩, slice_rel k1 k4 q2⟩
  obtain ⟨ks, y, k1, k2, k3⟩ := key
  exact ⟨ks, y, k1, ⟨k2, old0 k3⟩, old0 k3, k3⟩

theorem bools_of_rl : ∀ {hs : List Bool} {cs : List AV}, RL 1 (fun (b : Bool) ys => ys = [abl b]) hs cs → cs.take hs.length = hs.map abl
  | [], cs, _ => by simp
  | b :: r, cs, h => by
    simp only [RL] at h
    obtain ⟨h1, h2⟩ := h
    cases cs with
    | nil => simp at h1
    | cons c cs =>
      simp at h1 h2
      rw [List.length_cons, List.take_succ_cons, h1, List.map_cons, bools_of_rl h2]

theorem trod_bl {fuel : Nat} {cs : List Value} {d : DataW H} {ps : List MemPlace} (h : DataW.trod enc Try.prog w base sp held fuel 4 cs = some (d, ps)) (hl : cs.length = 1) : ∃ b : Bool, cs = [.bool b] := by
  match cs, hl with
  | [c], _ =>
    obtain ⟨b, rfl⟩ := trod_bool Try.underlying4 h
    exact ⟨b, rfl⟩

set_option maxRecDepth 100000 in
theorem bools_arg {r : Reach} {b0 : Nat} {v : Value} {d : DataW H} {ps : List MemPlace} (hval : Value.okWide Try.prog w r b0 43 v) (h : DataW.Trod enc Try.prog w base sp held 43 v d ps) (hw : Wt Try.prog 43 d) :
    ∃ (hs : List Bool) (y : AV), True ∧ HidR hs y ∧ Old 0 y ∧ VRel Emb.empty w y v := by
  obtain ⟨a0, len0, cap0, rfl⟩ := okWide_slice Try.underlying43 hval
  obtain ⟨fuel, hf⟩ := h
  cases fuel with
  | zero => simp [DataW.trod] at hf
  | succ fuel =>
  have hf' : DataW.trod enc Try.prog w base sp held (fuel + 1) 43 [.slice a0 len0 cap0] = some (d, ps) := hf
  have key : ∃ (hs : List Bool) (y : AV), HidR hs y ∧ VRel Emb.empty w y (.slice a0 len0 cap0) := by
    rcases trod_slice Try.underlying43 hf' hw with hv | ⟨ad, len, cap, us, hv, k1, k2, k3, k4, k5, kb⟩
    · rw [hv]
      exact ⟨[], nils, .inl ⟨rfl, rfl⟩, .v _ rfl⟩
    · rw [hv]
      rw [cells4] at k3 k5
      obtain ⟨hs, cs', q1, q2, q3⟩ := rl_of (w := w) (c := 1) (R := fun (b : Bool) ys => ys = [abl b]) len us k3 (fun i hi => by
        obtain ⟨d', p', k6, kw⟩ := k5 i hi
        obtain ⟨b, k7⟩ := trod_bl k6 (by rw [List.length_take, List.length_drop, k3]; omega)
        refine ⟨b, _, rfl, ?_⟩
        rw [k7]
        exact LRel.cons (VRel.v _ rfl) lrel_nil)
      exact ⟨hs, .ro len cap false cs', .inr ⟨cap, false, cs', by rw [q1], by omega, bools_of_rl q3⟩, slice_rel k1 k4 q2⟩
  obtain ⟨ks, y, k2, k3⟩ := key
  exact ⟨ks, y, trivial, k2, old0 k3, k3⟩
end

theorem law_back2 (ks : List Tm) (hkb : KsB ks) (x : AV) (hx : SlK ks x) (ox : Old 0 x) (hs : List Bool) (hy0 : True) (y : AV) (hy : HidR hs y) (oy : Old 0 y) (t : Tm) (htb : Tm.All TmB t) (tc : List AV) (hT : TmR t tc) (ot : ∀ y ∈ tc, Old 0 y) (H : AHeap) :
    SCall Try.prog 6 [x, y, .agg tc] H fun x H' => x = abl true ∧ H' = H :=
  law_back ks hkb.2 (by have := hkb.1; omega) x hx hs y hy t htb tc hT ot H
end Go.Proofs.Ytooaiddfokbffaa.E

/- The row TeleBack: whatever the input, the law answers true. Conditions: none. -/
set_option linter.unusedVariables false
set_option linter.unusedSimpArgs false
namespace Go.Proofs.Ytooaiddfokbffaa.teleBack
open Go.ChangeShapes Go.WideShapes Go.ChangeAt Go.RowKit
open Go.ChangeMaps (open_string shut_string)
set_option maxRecDepth 100000 in
theorem lifted (os : Os) (started : os.Started) (H : Type) (enc : TypeId × Value → H) :
    ReturnsInHanded {} Try.checked os 6 .any (Rows.teleBackSpec.pre6 enc Try.prog Try.f6 Rows.teleBackRow.domain false) (Rows.teleBackSpec.post enc Try.prog Try.f6 false true false false) := by
  refine returnsInHanded_of_change_sized (C := Try.checked) E.own started (by kernel_rfl) Try.func6
    (ChangeSpec.witness6 (enc := enc) (C := Try.checked) false ⟨#[], #[.slice none 0 0, .slice none 0 0, .agg #[.int .i64 0, .int .i64 0, .bool false, .string ByteArray.empty, .slice none 0 0, .slice none 0 0]], []⟩ 8 (by kernel_rfl) (by kernel_rfl) (by kernel_rfl) (by kernel_rfl)) ?_
  intro W base args ds gs before hval0 hW hcnd hsz0 _
  have hsz : (DataW.weightsEach Try.prog (Try.f6.params.toList ++ Rows.teleBackSpec.plain.varTypes Try.prog) (ds ++ gs)).all (· ≤ reachBytes) = true := hsz0
  have hval : ∀ (j : Nat) t v, Try.f6.params[j]? = some t → args[j]? = some v → Value.okWide Try.prog W .any base t v := hval0
  have hW' := hW
  obtain ⟨p, q, hA0, hV, rfl, hfz, hnd⟩ := hW
  have hA : DataW.TrodAll enc Try.prog W 0 (fun _ => true) true Try.f6.params.toList args.toList ds p := hA0
  rw [Try.params6] at hA hval hsz
  obtain ⟨v0, vs0, d0, ds0, p0, q0, hargs, rfl, rfl, h0, r0⟩ := trodAll_cons hA
  obtain ⟨v1, vs1, d1, ds1, p1, q1, rfl, rfl, rfl, h1, r1⟩ := trodAll_cons r0
  obtain ⟨v2, vs2, d2, ds2, p2, q2, rfl, rfl, rfl, h2, r2⟩ := trodAll_cons r1
  obtain ⟨rfl, rfl, rfl⟩ := trodAll_nil r2
  obtain rfl : args = #[v0, v1, v2] := by cases args; simp_all
  obtain ⟨rfl, rfl⟩ := trodVars_none hV
  have k0 := h0
  have lt0 : ∀ x ∈ p0, x.block < W.heap.size := by obtain ⟨m, hm⟩ := k0; exact DataW.trod_lt m _ _ _ hm
  obtain ⟨t0, y0, b0, c0, o0, w0⟩ := E.terms_arg (hval 0 23 v0 rfl rfl) h0 (E.wt_arg hsz (j := 0) (t := 23) rfl rfl)
  have k1 := h1
  have lt1 : ∀ x ∈ p1, x.block < W.heap.size := by obtain ⟨m, hm⟩ := k1; exact DataW.trod_lt m _ _ _ hm
  obtain ⟨t1, y1, b1, c1, o1, w1⟩ := E.bools_arg (hval 1 43 v1 rfl rfl) h1 (E.wt_arg hsz (j := 1) (t := 43) rfl rfl)
  have k2 := h2
  have lt2 : ∀ x ∈ p2, x.block < W.heap.size := by obtain ⟨m, hm⟩ := k2; exact DataW.trod_lt m _ _ _ hm
  obtain ⟨t2, y2, b2, c2, o2, w2⟩ := E.term_arg h2 (E.wt_arg hsz (j := 2) (t := 25) rfl rfl)
  clear hA0 hval0 hsz0 hsz
  refine (E.law_walk (E.law_back2 t0 b0 y0 c0 o0 t1 b1 y1 c1 o1 t2 b2 y2 c2 o2 E.AHeap.empty) (E.LRel.cons w0 (E.LRel.cons w1 (E.LRel.cons w2 E.lrel_nil)))).mono fun e W' ⟨he, bel⟩ => ?_
  subst he
  exact ⟨_, rfl, _, _, _, [], _, [], hW', trodAll_mk1 (shut_bool Try.underlying4 _), (trodAll_cons_mk (Below.trod E.laidOut (by kernel_rfl) (of_decide_eq_true (by kernel_rfl)) k0 bel lt0) (trodAll_cons_mk (Below.trod E.laidOut (by kernel_rfl) (of_decide_eq_true (by kernel_rfl)) k1 bel lt1) (trodAll_cons_mk (Below.trod E.laidOut (by kernel_rfl) (of_decide_eq_true (by kernel_rfl)) k2 bel lt2) trodAll_mk0))), rfl, bel.frame _, fun h => by cases h⟩

theorem over : Rows.teleBackRow.holds Try.pinned (OpenSpec.ofChange Rows.teleBackSpec) :=
  OpenClaim.holds_of_wide 6 Try.f6 rfl rfl rfl rfl rfl rfl rfl ⟨rfl, rfl, rfl, rfl, rfl⟩ rfl rfl rfl rfl rfl (by kernel_rfl) Try.func6 (by kernel_rfl)
    (of_decide_eq_true (by kernel_rfl)) (by unfold Func.isWrapper; first | (rw [if_pos (by decide +kernel)]; kernel_rfl) | (rw [if_neg (by decide +kernel)]; exact ⟨rfl, rfl⟩))
    (fun os started H enc _ => lifted os started H enc)
theorem proved : Rows.TeleBackSaid := over
end Go.Proofs.Ytooaiddfokbffaa.teleBack
namespace Go.Proofs.Ytooaiddfokbffaa
/-- The row, under a short name, for the claim. -/
theorem teleBack_holds : Rows.TeleBackSaid := teleBack.proved
#print axioms teleBack_holds
end Go.Proofs.Ytooaiddfokbffaa
