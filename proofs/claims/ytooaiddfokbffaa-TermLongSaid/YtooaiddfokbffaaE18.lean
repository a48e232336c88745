/- A region that draws its order: the whole of it, by one order that serves all. Conditions: none. -/
import Derived.Test.YtooaiddfokbffaaE17
set_option linter.unusedVariables false
set_option linter.unusedSimpArgs false
namespace Go.Proofs.Ytooaiddfokbffaa.E
open Go

section
variable {P : Program} {N : Nat} {ops : Array Oper} {L : List (Nat × DItem)} {Q : ASt → Prop} {tm0 : Nat → AV} {e0 e : Emb} {w0 w : World} {listed : Array Bool} {a : Act}
  {done : List Rec} {rest : List (Nat × DItem)} {st : ASt}

theorem ready_iff (hs : listed.size = ops.size) {i : Nat} : i ∈ Region.ready .any ops listed ↔ i < ops.size ∧ ¬ isL listed i ∧ ∀ k, Edge ops i k → isL listed k := by
  unfold Region.ready
  simp only [List.mem_filter, List.mem_range, Bool.and_eq_true, Bool.not_eq_true']
  constructor
  · rintro ⟨h1, h2, h3⟩
    refine ⟨h1, ?_, ?_⟩
    · unfold isL
      simp only [Array.getD_eq_getD_getElem?, Array.getElem?_eq_getElem (hs ▸ h1 : i < listed.size), Option.getD_some] at h2 ⊢
      simp [h2]
    · rintro k ⟨o, ho, ed, hed, hb, rfl⟩
      rw [ho] at h3
      simp only [Option.map_some, Option.getD_some, Array.all_eq_true'] at h3
      have := h3 ed hed
      simpa [hb, isL] using this
  · rintro ⟨h1, h2, h3⟩
    refine ⟨h1, ?_, ?_⟩
    · unfold isL at h2
      simp only [Array.getD_eq_getD_getElem?, Array.getElem?_eq_getElem (hs ▸ h1 : i < listed.size), Option.getD_some] at h2 ⊢
      simpa using h2
    · rw [Array.getElem?_eq_getElem h1]
      simp only [Option.map_some, Option.getD_some, Array.all_eq_true']
      intro ed hed
      by_cases hb : Region.binds .any ed = true
      · have := h3 ed.on ⟨_, Array.getElem?_eq_getElem h1, ed, hed, hb, rfl⟩
        simp only [isL] at this
        simp [this]
      · simp [hb]

theorem all_listed (hp : PlanOk P N ops L) (hs : listed.size = ops.size) (hr : Region.ready .any ops listed = []) : ∀ (q i : Nat) (it : DItem), L[q]? = some (i, it) → isL listed i := by
  intro q
  induction q using Nat.strongRecOn with
  | _ q ih =>
    intro i it hq
    apply Classical.byContradiction
    intro hn
    have : i ∈ Region.ready .any ops listed := by
      rw [ready_iff hs]
      obtain ⟨o, ho, _⟩ := hp.comp q i it hq
      refine ⟨(Array.getElem?_eq_some_iff.1 ho).1, hn, fun k hk => ?_⟩
      obtain ⟨r, it', h1, h2⟩ := hp.lin q i it hq k hk
      exact ih r h1 k it' h2
    rw [hr] at this
    cases this

theorem wp_of_wpOp {i : Nat} {o : Oper} {K : Act → World → Prop} {QQ : Exit → Act → World → Prop} (ho : ops[i]? = some o)
    (h : if Region.wanted o (yielded ops a.tmps) = true then o.wp P a w K QQ ∨ (o.asks P a w ∧ LetsOut QQ) else K (a.put o.dst undef) w) : wpOp P ops QQ i K a w := by
  unfold wpOp
  rw [ho]
  exact h

theorem updO_congr {tm tm' : Nat → AV} {d : Option Nat} {x y : AV} (h : tm = tm') (hx : d.isSome = true → x = y) : updO tm d x = updO tm' d y := by
  subst h
  cases d with
  | none => rfl
  | some d => rw [hx rfl]

theorem isNew_congr {tm tm' : Nat → AV} {i : AI} (h : ∀ t ∈ i.reads, tm t = tm' t) : isNew tm i = isNew tm' i := by
  cases i with
  | op d g o => obtain ⟨h1, _⟩ := op_congr h; simp only [isNew, h1]
  | call => rfl

/-- The records' values, where one more step is listed. -/
theorem Inv.list (hp : PlanOk P N ops L) (h : Inv P N ops L Q tm0 e0 w0 listed a w done rest st e) {q : Nat} {r : Rec} (hq : done[q]? = some r) (hi : r.i < listed.size) :
    tmL (listed.setIfInBounds r.i true) tm0 done = updO (tmL listed tm0 done) r.it.ins.dst r.x := by
  refine tmF_turn (List.mem_of_getElem? hq) ?_ ?_ ?_
  · exact (isL_set hi).2 (.inl rfl)
  · intro r' hr' hne
    rw [getD_set listed r.i r'.i hi, if_neg]
    intro hh
    obtain ⟨q', hq'⟩ := List.getElem?_of_mem hr'
    have := h.uniqI hp hq' hq hh
    subst this
    rw [hq] at hq'
    injection hq' with hq'
    exact hne hq'.symm
  · intro d hd r' hr' hd'
    exact h.umem hp hr' (List.mem_of_getElem? hq) hd' hd

theorem down_set (hd : ∀ i, isL listed i → ∀ k, Edge ops i k → isL listed k) {i : Nat} (hi : i < listed.size) (hr : ∀ k, Edge ops i k → isL listed k) : ∀ j, isL (listed.setIfInBounds i true) j → ∀ k, Edge ops j k → isL (listed.setIfInBounds i true) k := by
  intro j hj k hk
  rw [isL_set hi] at hj ⊢
  rcases hj with rfl | hj
  · exact .inr (hr k hk)
  · exact .inr (hd j hj k hk)

theorem draw_walk (hp : PlanOk P N ops L) (QQ : Exit → Act → World → Prop) (hQ : ∀ st' a' w' e', Q st' → StRel N e' st' a' w' → Evo e0 w0 e' w' → QQ .normal a' w') :
    ∀ (fuel : Nat) (listed : Array Bool) (a : Act) (w : World) (done : List Rec) (rest : List (Nat × DItem)) (st : ASt) (e : Emb) (u : List Nat), Inv P N ops L Q tm0 e0 w0 listed a w done rest st e →
      (∀ p r, rest = p :: r → isFloat p.2.ins = false) → u.length ≤ fuel → (∀ i, i < ops.size → ¬ isL listed i → i ∈ u) → wpAny P .any ops QQ fuel listed a w := by
  intro fuel
  have stop : ∀ (listed : Array Bool) (a : Act) (w : World) (done : List Rec) (rest : List (Nat × DItem)) (st : ASt) (e : Emb), Inv P N ops L Q tm0 e0 w0 listed a w done rest st e →
      Region.ready .any ops listed = [] → QQ .normal a w := by
    intro listed a w done rest st e h hr
    have hall := all_listed hp h.lsize hr
    have hrest : rest = [] := by
      cases rest with
      | nil => rfl
      | cons p rest =>
        exfalso
        refine h.rest p (List.mem_cons_self ..) (hall done.length p.1 p.2 ?_)
        rw [h.plan, List.getElem?_append_right (by simp)]
        simp
    subst hrest
    have hgo := h.go
    simp only [List.map_nil, swpD] at hgo
    refine hQ st a w e hgo ⟨h.heap, ?_, h.size, h.defers⟩ h.evo
    have : tmL listed tm0 done = tmA tm0 done := tmF_congr fun r hr => by
      obtain ⟨q, hq⟩ := List.getElem?_of_mem hr
      exact hall q r.i r.it (h.at hq)
    rw [h.tm, ← this]
    exact h.trel
  induction fuel with
  | zero =>
    intro listed a w done rest st e u h hh hu hun
    have hr : Region.ready .any ops listed = [] := by
      apply List.eq_nil_iff_forall_not_mem.2
      intro i hi
      obtain ⟨h1, h2, _⟩ := (ready_iff h.lsize).1 hi
      have := hun i h1 h2
      have hl := List.length_pos_of_mem this
      omega
    exact ⟨hr, stop listed a w done rest st e h hr⟩
  | succ fuel ih =>
    intro listed a w done rest st e u h hh hu hun
    refine ⟨stop listed a w done rest st e h, fun i hi => ?_⟩
    obtain ⟨h1, h2, h3⟩ := (ready_iff h.lsize).1 hi
    have hisz : i < listed.size := by rw [h.lsize]; exact h1
    have hu' : (u.erase i).length ≤ fuel := by rw [List.length_erase_of_mem (hun i h1 h2)]; omega
    have hun' : ∀ j, j < ops.size → ¬ isL (listed.setIfInBounds i true) j → j ∈ u.erase i := by
      intro j hj hnj
      rw [isL_set hisz] at hnj
      exact (List.mem_erase_of_ne (fun hji => hnj (.inl hji))).2 (hun j hj fun hl => hnj (.inr hl))
    have hdown := down_set h.down hisz h3
    have hanc : ∀ m, Anc ops i m → isL listed m := fun m hm => anc_listed h.down hm h3
    obtain ⟨q, it, hq⟩ := hp.full i h1
    obtain ⟨o, ho, hc⟩ := hp.comp q i it hq
    have hdst := compI_dst hc
    refine wp_of_wpOp ho ?_
    rcases Nat.lt_or_ge q done.length with hlt | hge
    · -- a float, done already
      have hq' := hq
      rw [h.plan, List.getElem?_append_left (by simpa using hlt)] at hq'
      simp only [List.getElem?_map, Option.map_eq_some_iff, Prod.mk.injEq] at hq'
      obtain ⟨r, hr, rfl, rfl⟩ := hq'
      have hfl : isFloat r.it.ins = true := by
        cases hf : isFloat r.it.ins with
        | true => rfl
        | false => exact absurd (h.heavy r (List.mem_of_getElem? hr) hf) h2
      have hreads : ∀ t ∈ r.it.ins.reads, tmA tm0 (done.take q) t = tmL listed tm0 done t := by
        intro t ht
        by_cases hex : ∃ (s : Nat) (r' : Rec), s < q ∧ done[s]? = some r' ∧ r'.it.ins.dst = some t
        · obtain ⟨s, r', k1, k2, k3⟩ := hex
          have k4 : isL listed r'.i := hanc _ (hp.readB s q _ _ _ _ k1 (h.at k2) hq t k3 ht)
          have k5 : r' ∈ done.take q := by
            refine List.mem_of_getElem? (i := s) ?_
            rw [List.getElem?_take, if_pos k1]
            exact k2
          rw [show tmA tm0 (done.take q) t = r'.x from tmF_some k5 k3 rfl (fun r2 hr2 hd2 => h.umem hp (List.mem_of_mem_take hr2) (List.mem_of_getElem? k2) hd2 k3)]
          exact (tmF_some (p := fun r => listed.getD r.i false) (List.mem_of_getElem? k2) k3 k4 (fun r2 hr2 hd2 => h.umem hp hr2 (List.mem_of_getElem? k2) hd2 k3)).symm
        · rw [show tmA tm0 (done.take q) t = tm0 t from tmF_none fun r2 hr2 hd2 => by
            exfalso
            obtain ⟨s, hs⟩ := List.getElem?_of_mem hr2
            rw [List.getElem?_take] at hs
            split at hs
            · exact hex ⟨s, r2, by assumption, hs, hd2⟩
            · cases hs]
          refine (tmF_none fun r2 hr2 hd2 => ?_).symm
          obtain ⟨s, hs⟩ := List.getElem?_of_mem hr2
          rcases Nat.lt_trichotomy s q with k1 | k1 | k1
          · exact absurd ⟨s, r2, k1, hs, hd2⟩ hex
          · subst k1
            rw [hr] at hs
            injection hs with hs
            subst hs
            exact absurd ht (hp.own s _ _ hq hfl t hd2)
          · have k4 := hp.readA q s _ _ _ _ k1 hq (h.at hs) t hd2 ht
            cases hl : listed.getD r2.i false with
            | false => rfl
            | true => exact absurd (anc_listed h.down k4 (h.down _ hl)) h2
      have hnewc : ∀ (x : AV) (u' : Value) (w' : World) (e' : Emb), HRel e' st.heap w' → VRel e' w' x u' → (r.it.ins.dst.isSome = true → x = r.x) → Evo e0 w0 e' w' → Evo0 e w e' w' →
          (∀ (q' : Nat) (r' : Rec), done[q']? = some r' → r' ≠ r → ¬ isL listed r'.i → Pend e' st (tmA tm0 (done.take q')) r') →
          wpAny P .any ops QQ fuel (listed.setIfInBounds r.i true) (a.put o.dst u') w' := by
        intro x u' w' e' hH hx hxr hv hv0 hpd
        refine ih _ _ _ done rest st e' (u.erase r.i) ⟨h.plan, h.tm, h.go, ?_, ?_, hH, ?_, hv, ?_, h.newlt, h.newinc, hdown, ?_, ?_, ?_⟩ hh hu' hun'
        · intro p hp' hl
          rw [isL_set hisz] at hl
          rcases hl with hl | hl
          · obtain ⟨s, hs⟩ := List.getElem?_of_mem hp'
            refine absurd hl.symm (hp.ne q (done.length + s) r.i p.1 r.it p.2 (by omega) hq ?_)
            rw [h.plan, List.getElem?_append_right (by simp)]
            simpa using hs
          · exact h.rest p hp' hl
        · intro r' hr' hf'
          rw [isL_set hisz]
          exact .inr (h.heavy r' hr' hf')
        · rw [h.list hp hr hisz, ← updO_congr rfl hxr, hdst.1]
          exact put_tm (fun t => (h.trel t).evo0 hv0) h.size hdst.2 hx
        · intro q' r' hq' hl
          rw [isL_set hisz] at hl
          exact hpd q' r' hq' (fun hrr => hl (.inl (hrr ▸ rfl))) (fun hl' => hl (.inr hl'))
        · simpa using h.lsize
        · rw [put_size]; exact h.size
        · rw [put_defers]; exact h.defers
      have hpd := h.pend q r hr h2
      unfold Pend at hpd
      split at hpd
      case h_2 => exact hpd.elim
      rename_i d g ao hins
      have hcc := hc
      rw [hins] at hcc
      obtain ⟨hcg, hcop, hcd, hcN⟩ := compI_op hcc
      obtain ⟨hgc, hac, hnc⟩ := op_congr (d := d) (g := g) (o := ao) (by rw [← hins]; exact hreads)
      have hsome : d.isSome = true → r.it.ins.dst.isSome = true := by rw [hins]; exact id
      have hsome' : r.it.ins.dst.isSome = true → d.isSome = true := by rw [hins]; exact id
      have keep : ∀ (e' : Emb) (w' : World), Evo e w e' w' → ∀ (q' : Nat) (r' : Rec), done[q']? = some r' → r' ≠ r → ¬ isL listed r'.i → Pend e' st (tmA tm0 (done.take q')) r' := by
        intro e' w' hv q' r' hq' _ hl
        have hp' := h.pend q' r' hq' hl
        unfold Pend at hp' ⊢
        split
        · rename_i d2 g2 o2 hins2
          rw [hins2] at hp'
          simp only at hp'
          split
          · rename_i hg2
            rw [if_pos hg2] at hp'
            rcases hp' with k | ⟨l', mk', k1, k2, k3, k4⟩
            · exact .inl k
            · exact .inr ⟨l', mk', k1, k2, hv.un _ (by rw [h.heap.next]; exact h.heap.get _ _ k2) k3, k4⟩
          · rename_i hg2
            rw [if_neg hg2] at hp'
            exact hp'
        · rename_i hins2
          rw [hins2] at hp'
          exact hp'
      by_cases hnew : gOk (tmA tm0 (done.take q)) g = true ∧ ∃ l mk, anew (tmA tm0 (done.take q)) ao = some (l, mk) ∧ st.heap.get r.b = some (.cells l) ∧ e.map r.b = none ∧ r.x = mk r.b
      · obtain ⟨hg, l, mk, k1, k2, k3, k4⟩ := hnew
        rw [wanted_iff h.trel h.size hcg, ← hgc, hg, if_pos rfl]
        obtain ⟨u', w', k5, k6, k7, k8⟩ := anew_sound h.heap h.trel o hcop (hnc ▸ k1) k2 k3
        have hisn : isNew (tmA tm0 (done.take q)) r.it.ins = true := by
          rw [hins]
          simp only [isNew, hg, Bool.true_and, anew_kind k1]
          rfl
        have hv : Evo e0 w0 (e.add r.b w.heap.size) w' := by
          refine ⟨h.evo.toEvo0.trans k8, fun b hb hm => ?_⟩
          rw [add_map, if_neg (by have := (h.newlt q r hr hisn).1; omega)]
          exact h.evo.un b hb hm
        have hgoal := hnewc (mk r.b) u' w' _ k6 k7 (fun _ => k4.symm) hv k8 (fun q' r' hq' hne hl => by
          have hp' := h.pend q' r' hq' hl
          unfold Pend at hp' ⊢
          split
          · rename_i d2 g2 o2 hins2
            rw [hins2] at hp'
            simp only at hp'
            split
            · rename_i hg2
              rw [if_pos hg2] at hp'
              rcases hp' with k | ⟨l', mk', m1, m2, m3, m4⟩
              · exact .inl k
              · refine .inr ⟨l', mk', m1, m2, ?_, m4⟩
                have hisn' : isNew (tmA tm0 (done.take q')) r'.it.ins = true := by
                  rw [hins2]
                  simp only [isNew, hg2, Bool.true_and, anew_kind m1]
                  rfl
                rw [add_map, if_neg]
                · exact m3
                · rcases Nat.lt_trichotomy q q' with n1 | n1 | n1
                  · have := h.newinc q q' r r' n1 hr hq' hisn hisn'; omega
                  · subst n1; rw [hr] at hq'; injection hq' with hq'; exact absurd hq'.symm hne
                  · have := h.newinc q' q r' r n1 hq' hr hisn' hisn; omega
            · rename_i hg2
              rw [if_neg hg2] at hp'
              exact hp'
          · rename_i hins2
            rw [hins2] at hp'
            exact hp')
        refine .inl ?_
        unfold Oper.wp
        rcases k5 with k5 | ⟨k5, rfl⟩
        · rw [k5]; exact hgoal
        · rw [k5]; exact hgoal
      · have hstep : stepV P r.it.ins (tmL listed tm0 done) st.heap fun y H' => H' = st.heap ∧ (r.it.ins.dst.isSome = true → y = r.x) := by
          rw [hins]
          simp only [stepV]
          rw [← hgc, ← hac]
          split
          · rename_i hg
            rw [if_pos hg] at hpd
            rcases hpd with ⟨k1, x, k2, k3⟩ | k
            · exact ⟨x, _, k2, rfl, k3⟩
            · exact absurd ⟨hg, k⟩ hnew
          · rename_i hg
            rw [if_neg hg] at hpd
            exact ⟨by simp, fun _ => hpd.symm⟩
        exact stepV_sound hc h.heap h.trel h.size hstep fun x H' u' w' e' ⟨hk1, hk2⟩ hH hx hv => by
          subst hk1
          exact hnewc x u' w' e' hH hx hk2 (h.evo.trans hv) hv.toEvo0 (keep e' w' hv)
    · -- the step in hand
      have hq' := hq
      rw [h.plan, List.getElem?_append_right (by simpa using hge)] at hq'
      cases rest with
      | nil => simp at hq'
      | cons p rest =>
        have hheavy := hh p rest rfl
        have hqd : q = done.length := by
          apply Classical.byContradiction
          intro hne
          have hp0 : L[done.length]? = some (p.1, p.2) := by
            rw [h.plan, List.getElem?_append_right (by simp)]
            simp
          exact h.rest p (List.mem_cons_self ..) (hanc _ (hp.heavy done.length q _ _ _ _ (by omega) hp0 hq hheavy))
        subst hqd
        simp at hq'
        obtain ⟨i', it'⟩ := p
        simp only [Prod.mk.injEq] at hq'
        obtain ⟨rfl, rfl⟩ := hq'
        simp only at hheavy
        have hgo := h.go
        simp only [List.map_cons, swpD, stepI] at hgo
        have hreads : ∀ t ∈ it'.ins.reads, st.tm t = tmL listed tm0 done t := by
          intro t ht
          rw [h.tm]
          by_cases hex : ∃ r' ∈ done, r'.it.ins.dst = some t
          · obtain ⟨r', k2, k3⟩ := hex
            obtain ⟨s, hs⟩ := List.getElem?_of_mem k2
            have k4 : isL listed r'.i := hanc _ (hp.readB s done.length _ _ _ _ (List.getElem?_eq_some_iff.1 hs).1 (h.at hs) hq t k3 ht)
            rw [show tmA tm0 done t = r'.x from tmF_some k2 k3 rfl (fun r2 hr2 hd2 => h.umem hp hr2 k2 hd2 k3)]
            exact (tmF_some (p := fun r => listed.getD r.i false) k2 k3 k4 (fun r2 hr2 hd2 => h.umem hp hr2 k2 hd2 k3)).symm
          · rw [show tmA tm0 done t = tm0 t from tmF_none fun r2 hr2 hd2 => absurd ⟨r2, hr2, hd2⟩ hex]
            exact (tmF_none fun r2 hr2 hd2 => absurd ⟨r2, hr2, hd2⟩ hex).symm
        refine stepV_sound hc h.heap h.trel h.size (stepV_congr hreads hgo) fun x H' u' w' e' hk hH hx hv => ?_
        obtain ⟨hchk, hgo'⟩ := hk
        have hL : L[done.length]? = some (i', it') := hq
        have hnd : ∀ r' ∈ done, ∀ d', r'.it.ins.dst = some d' → it'.ins.dst ≠ some d' := by
          intro r' hr' d' hd'
          obtain ⟨s, hs⟩ := List.getElem?_of_mem hr'
          exact hp.dst s done.length _ _ _ _ (List.getElem?_eq_some_iff.1 hs).1 (h.at hs) hL d' hd'
        have hnotnew : ∀ tm, isNew tm it'.ins = false := by
          intro tm
          cases hi' : it'.ins with
          | call => rfl
          | op d g o =>
            rw [hi'] at hheavy
            simp only [isFloat, bne_eq_false_iff_eq] at hheavy
            simp [isNew, hheavy]
        have hall : tmA tm0 (done ++ [⟨i', it', x, 0⟩]) = updO (tmA tm0 done) it'.ins.dst x := tmF_append rfl hnd
        have htk' : ∀ (r1 : Rec) (s : Nat), s < done.length → (done ++ [r1]).take s = done.take s := fun r1 s hs => by rw [List.take_append_of_le_length (by omega)]
        have hset : tmL (listed.setIfInBounds i' true) tm0 (done ++ [⟨i', it', x, 0⟩]) = updO (tmL listed tm0 done) it'.ins.dst x := by
          rw [show tmL (listed.setIfInBounds i' true) tm0 (done ++ [⟨i', it', x, 0⟩]) = updO (tmL (listed.setIfInBounds i' true) tm0 done) it'.ins.dst x from
            tmF_append (by rw [getD_set _ _ _ hisz]; simp) hnd]
          rw [show tmL (listed.setIfInBounds i' true) tm0 done = tmL listed tm0 done from tmF_congr fun r hr => by
            rw [getD_set _ _ _ hisz, if_neg]
            intro hri
            obtain ⟨s, hs⟩ := List.getElem?_of_mem hr
            exact hp.ne s done.length _ _ _ _ (List.getElem?_eq_some_iff.1 hs).1 (h.at hs) hL hri]
        have hinv : Inv P N ops L Q tm0 e0 w0 (listed.setIfInBounds i' true) (a.put o.dst u') w' (done ++ [⟨i', it', x, 0⟩]) rest ⟨updO st.tm it'.ins.dst x, H'⟩ e' := by
          refine ⟨?_, ?_, ?_, ?_, ?_, hH, ?_, h.evo.trans hv, ?_, ?_, ?_, hdown, ?_, ?_, ?_⟩
          · rw [h.plan]; simp
          · show updO st.tm _ x = _
            rw [hall, h.tm]
          · simpa using hgo'
          · intro p hp' hl
            rw [isL_set hisz] at hl
            rcases hl with hl | hl
            · obtain ⟨s, hs⟩ := List.getElem?_of_mem hp'
              refine absurd hl.symm (hp.ne done.length (done.length + 1 + s) i' p.1 it' p.2 (by omega) hL ?_)
              rw [h.plan, List.getElem?_append_right (by simp; omega)]
              simp only [List.length_map]
              rw [show done.length + 1 + s - done.length = s + 1 by omega]
              simpa using hs
            · exact h.rest p (List.mem_cons_of_mem _ hp') hl
          · intro r hr hf
            rw [isL_set hisz]
            rcases List.mem_append.1 hr with hr | hr
            · exact .inr (h.heavy r hr hf)
            · simp only [List.mem_cons, List.not_mem_nil, or_false] at hr
              subst hr
              exact .inl rfl
          · rw [hset, hdst.1]
            exact put_tm (fun t => (h.trel t).evo hv) h.size hdst.2 hx
          · intro s r hs hl
            rw [isL_set hisz] at hl
            have hsl : s < done.length := by
              rcases Nat.lt_or_ge s done.length with k | k
              · exact k
              · rw [List.getElem?_append_right k] at hs
                have hm := List.mem_of_getElem? hs
                simp only [List.mem_cons, List.not_mem_nil, or_false] at hm
                subst hm
                exact absurd (.inl rfl) hl
            rw [List.getElem?_append_left hsl] at hs
            rw [htk' _ s hsl]
            have hnl : ¬ isL listed r.i := fun hl' => hl (.inr hl')
            have hpd := h.pend s r hs hnl
            have hfl : isFloat r.it.ins = true := by
              cases hf : isFloat r.it.ins with
              | true => rfl
              | false => exact absurd (h.heavy r (List.mem_of_getElem? hs) hf) hnl
            rcases hp.again s done.length _ _ _ _ hsl (h.at hs) hL hfl hheavy with k | ⟨k, knw⟩
            · exact absurd (hanc _ k) hnl
            have hag := hchk s k r.it.ins (by simp [hs])
            have hrd : ∀ t ∈ r.it.ins.reads, st.tm t = tmA tm0 (done.take s) t := by
              intro t ht
              rw [h.tm]
              exact tmA_take (hp.own s _ _ (h.at hs)) hfl hs (fun s' r' h1' h2' d hd => knw s' r'.i r'.it h1' (Nat.le_of_lt (List.getElem?_eq_some_iff.1 h2').1) (h.at h2') d hd) t ht
            have hrd2 : ∀ t ∈ r.it.ins.reads, updO st.tm it'.ins.dst x t = st.tm t := by
              intro t ht
              cases hd : it'.ins.dst with
              | none => rfl
              | some d =>
                simp only [updO, upd]
                rw [if_neg]
                intro htd
                subst htd
                exact knw done.length i' it' hsl (Nat.le_refl _) hL t hd ht
            unfold Pend at hpd ⊢
            split
            case h_2 =>
              rename_i hins
              rw [hins] at hpd
              exact hpd
            rename_i d g ao hins
            rw [hins] at hpd hag hrd hrd2
            simp only at hpd
            obtain ⟨q1, q2, q3⟩ := op_congr hrd
            obtain ⟨p1, p2, p3⟩ := op_congr hrd2
            simp only [again] at hag
            rw [q1] at hag
            split
            · rename_i hg
              rw [if_pos hg] at hpd
              have hag := hag hg
              have hx' : ∀ d', d = some d' → st.tm d' = r.x := by
                intro d' hd'
                rw [h.tm]
                exact tmF_some (List.mem_of_getElem? hs) (by rw [hins]; exact hd') rfl (fun r2 hr2 hd2 => h.umem hp hr2 (List.mem_of_getElem? hs) hd2 (by rw [hins]; exact hd'))
              rcases hpd with ⟨k1, x', k2, k3⟩ | ⟨l', mk', k1, k2, k3, k4⟩
              · rw [k1] at hag
                refine .inl ⟨k1, ?_⟩
                cases d with
                | none =>
                  obtain ⟨y, hy⟩ := hag
                  exact ⟨y, by rw [← q2, ← p2]; exact hy, fun hh => by simp at hh⟩
                | some d' => exact ⟨st.tm d', by rw [← q2, ← p2]; exact hag, fun _ => hx' d' rfl⟩
              · rw [anew_kind k1] at hag
                refine .inr ⟨l', mk', k1, ?_, hv.un _ (by rw [h.heap.next]; exact h.heap.get _ _ k2) k3, k4⟩
                cases d with
                | none => exact hag.elim
                | some d' =>
                  have := hag r.b (by rw [hx' d' rfl, k4]; exact anew_block k1 _)
                  show H'.get r.b = _
                  rw [show H'.get r.b = st.heap.get r.b from this]
                  exact k2
            · rename_i hg
              rw [if_neg hg] at hpd
              exact hpd
          · intro s r hs hi'
            rcases Nat.lt_or_ge s done.length with k | k
            · rw [List.getElem?_append_left k] at hs
              rw [htk' _ s k] at hi'
              have := h.newlt s r hs hi'
              refine ⟨this.1, Nat.lt_of_lt_of_le this.2 ?_⟩
              show st.heap.next ≤ H'.next
              rw [← h.heap.next, ← hH.next]
              exact hv.next
            · rw [List.getElem?_append_right k] at hs
              have hm := List.mem_of_getElem? hs
              simp only [List.mem_cons, List.not_mem_nil, or_false] at hm
              subst hm
              rw [hnotnew] at hi'
              cases hi'
          · intro s s' r r' hss hs hs' hi1 hi2
            rcases Nat.lt_or_ge s' done.length with k | k
            · rw [List.getElem?_append_left k] at hs'
              rw [List.getElem?_append_left (by omega)] at hs
              rw [htk' _ _ k] at hi2
              rw [htk' _ _ (by omega)] at hi1
              exact h.newinc s s' r r' hss hs hs' hi1 hi2
            · rw [List.getElem?_append_right k] at hs'
              have hm := List.mem_of_getElem? hs'
              simp only [List.mem_cons, List.not_mem_nil, or_false] at hm
              subst hm
              rw [hnotnew] at hi2
              cases hi2
          · simpa using h.lsize
          · rw [put_size]; exact h.size
          · rw [put_defers]; exact h.defers
        obtain ⟨done2, rest2, st2, e2, k1, k2⟩ := advance hp _ _ _ _ hinv
        exact ih _ _ _ done2 rest2 st2 e2 (u.erase i') k1 k2 hu' hun'

/-- The region, whole. -/
theorem draw_sound (hm : P.follows .mixedOrders = true) {id : Nat} (hp : PlanOk P N ops L) (hS : StRel N e st a w) {K : ASt → Prop} (h : swpD P [] (L.map (·.2)) K st)
    {QQ : Exit → Act → World → Prop} (hQ : ∀ st' a' w' e', K st' → StRel N e' st' a' w' → Evo e w e' w' → QQ .normal a' w') : (Code.region id ops true).wp P QQ a w := by
  refine wp_region_any hm ?_
  have hnone : ∀ i, ¬ isL (Array.replicate ops.size false) i := by
    intro i
    unfold isL
    simp only [Array.getD_eq_getD_getElem?, Array.getElem?_replicate]
    split <;> simp
  have hd := Evo.drew e w
  have hinv : Inv P N ops L K st.tm e w (Array.replicate ops.size false) a w.drew [] L st e := by
    refine ⟨rfl, rfl, h, fun p _ => hnone _, fun r hr => (by cases hr), hS.heap.drew, ?_, hd, fun q r hq => (by simp at hq), fun q r hq => (by simp at hq), fun q q' r r' _ hq => (by simp at hq), fun i hi => absurd hi (hnone i), by simp, hS.size, hS.defers⟩
    exact hS.tm.evo hd
  obtain ⟨done2, rest2, st2, e2, k1, k2⟩ := advance hp _ _ _ _ hinv
  exact draw_walk hp QQ (fun st' a' w' e' hk hs hv => hQ st' a' w' e' hk hs hv) ops.size _ a _ done2 rest2 st2 e2 (List.range ops.size) k1 k2 (by simp) (fun i hi _ => List.mem_range.2 hi)

end
end Go.Proofs.Ytooaiddfokbffaa.E
