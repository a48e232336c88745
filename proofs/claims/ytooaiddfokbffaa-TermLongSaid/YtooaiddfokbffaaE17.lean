/- A region that draws its order, whole. Conditions: none. -/
import Derived.Test.YtooaiddfokbffaaE16
import Derived.Orders
set_option linter.unusedVariables false
set_option linter.unusedSimpArgs false
namespace Go.Proofs.Ytooaiddfokbffaa.E
open Go

theorem compI_op {P : Program} {N : Nat} {ops : Array Oper} {o : Oper} {d : Option Nat} {g : Option (Nat × Bool)} {ao : AOp} (hc : compI P N ops o = some (.op d g ao)) :
    compG ops o.guard = some g ∧ compOp P o.op = some ao ∧ o.dst = d ∧ dstOk N o.dst = true := by
  obtain ⟨h1, h2⟩ := compI_dst hc
  unfold compI at hc
  rw [if_pos h2] at hc
  split at hc
  · cases hc
  rename_i g' hg
  split at hc
  · split at hc
    · simp at hc
    · cases hc
  · simp only [Option.map_eq_some_iff] at hc
    obtain ⟨ao', hao, hc⟩ := hc
    simp only [AI.op.injEq] at hc
    obtain ⟨_, rfl, rfl⟩ := hc
    exact ⟨hg, hao, h1.symm, h2⟩

def tmA (tm0 : Nat → AV) (done : List Rec) : Nat → AV := tmF (fun _ => true) tm0 done
def tmL (listed : Array Bool) (tm0 : Nat → AV) (done : List Rec) : Nat → AV := tmF (fun r => listed.getD r.i false) tm0 done

theorem anc_listed {ops : Array Oper} {listed : Array Bool} (hd : ∀ i, isL listed i → ∀ k, Edge ops i k → isL listed k) {i m : Nat} (h : Anc ops i m) (hi : ∀ k, Edge ops i k → isL listed k) : isL listed m := by
  induction h with
  | dir h => exact hi _ h
  | trans h h' ih => exact ih (hd _ (hi _ h))

structure Inv (P : Program) (N : Nat) (ops : Array Oper) (L : List (Nat × DItem)) (Q : ASt → Prop) (tm0 : Nat → AV) (e0 : Emb) (w0 : World) (listed : Array Bool) (a : Act) (w : World)
    (done : List Rec) (rest : List (Nat × DItem)) (st : ASt) (e : Emb) : Prop where
  plan : L = done.map (fun r => (r.i, r.it)) ++ rest
  tm : st.tm = tmA tm0 done
  go : swpD P (done.map (·.it.ins)) (rest.map (·.2)) Q st
  rest : ∀ p ∈ rest, ¬ isL listed p.1
  heavy : ∀ r ∈ done, isFloat r.it.ins = false → isL listed r.i
  heap : HRel e st.heap w
  trel : TRel e w (tmL listed tm0 done) a
  evo : Evo e0 w0 e w
  pend : ∀ (q : Nat) (r : Rec), done[q]? = some r → ¬ isL listed r.i → Pend e st (tmA tm0 (done.take q)) r
  newlt : ∀ (q : Nat) (r : Rec), done[q]? = some r → isNew (tmA tm0 (done.take q)) r.it.ins = true → e0.next ≤ r.b ∧ r.b < st.heap.next
  newinc : ∀ (q q' : Nat) (r r' : Rec), q < q' → done[q]? = some r → done[q']? = some r' → isNew (tmA tm0 (done.take q)) r.it.ins = true → isNew (tmA tm0 (done.take q')) r'.it.ins = true → r.b < r'.b
  down : ∀ i, isL listed i → ∀ k, Edge ops i k → isL listed k
  lsize : listed.size = ops.size
  size : N ≤ a.tmps.size
  defers : a.defers = []

section
variable {P : Program} {N : Nat} {ops : Array Oper} {L : List (Nat × DItem)} {Q : ASt → Prop} {tm0 : Nat → AV} {e0 e : Emb} {w0 w : World} {listed : Array Bool} {a : Act}
  {done : List Rec} {rest : List (Nat × DItem)} {st : ASt}

theorem tmF_take {p : Rec → Bool} {q : Nat} {t : Nat} (h : ∀ (s : Nat) (r : Rec), q ≤ s → done[s]? = some r → r.it.ins.dst ≠ some t) : tmF p tm0 done t = tmF p tm0 (done.take q) t := by
  have hd : done = done.take q ++ done.drop q := (List.take_append_drop q done).symm
  unfold tmF
  conv => lhs; rw [hd, List.find?_append]
  cases done.take q |>.find? (fun r => r.it.ins.dst == some t && p r) with
  | some r => rfl
  | none =>
    have : (done.drop q).find? (fun r => r.it.ins.dst == some t && p r) = none := by
      rw [List.find?_eq_none]
      intro r hr
      obtain ⟨i, hi, rfl⟩ := List.getElem_of_mem hr
      have h1 := h (q + i) ((done.drop q)[i]) (Nat.le_add_right _ _) (by rw [← List.getElem?_drop]; exact List.getElem?_eq_getElem hi)
      simp only [Bool.and_eq_true, beq_iff_eq, not_and]
      intro h2; exact absurd h2 h1
    rw [this]
    rfl

theorem tmF_turn {p p' : Rec → Bool} {r : Rec} (hr : r ∈ done) (hp : p' r = true) (ho : ∀ r' ∈ done, r' ≠ r → p' r' = p r') (hu : ∀ d, r.it.ins.dst = some d → ∀ r' ∈ done, r'.it.ins.dst = some d → r' = r) :
    tmF p' tm0 done = updO (tmF p tm0 done) r.it.ins.dst r.x := by
  funext t
  have key : r.it.ins.dst ≠ some t → tmF p' tm0 done t = tmF p tm0 done t := by
    intro hne
    unfold tmF
    have : done.find? (fun r => r.it.ins.dst == some t && p' r) = done.find? (fun r => r.it.ins.dst == some t && p r) := by
      have : ∀ l : List Rec, (∀ x ∈ l, x ∈ done) → l.find? (fun r => r.it.ins.dst == some t && p' r) = l.find? (fun r => r.it.ins.dst == some t && p r) := by
        intro l
        induction l with
        | nil => intro _; rfl
        | cons x xs ih =>
          intro hm
          have hx : (x.it.ins.dst == some t && p' x) = (x.it.ins.dst == some t && p x) := by
            by_cases hd : x.it.ins.dst = some t
            · rw [ho x (hm x (List.mem_cons_self ..)) (fun h => hne (h ▸ hd))]
            · have : (x.it.ins.dst == some t) = false := by simpa using hd
              rw [this]
              rfl
          simp only [List.find?_cons, hx]
          rw [ih fun y hy => hm y (List.mem_cons_of_mem _ hy)]
      exact this done fun _ h => h
    rw [this]
  cases hd : r.it.ins.dst with
  | none => exact key (by rw [hd]; simp)
  | some d =>
    simp only [updO, upd]
    by_cases ht : t = d
    · subst ht
      rw [if_pos rfl]
      exact tmF_some hr hd hp (hu t hd)
    · rw [if_neg ht]
      exact key (by rw [hd]; simp; exact fun h => ht h.symm)

theorem Inv.at (h : Inv P N ops L Q tm0 e0 w0 listed a w done rest st e) {q : Nat} {r : Rec} (hq : done[q]? = some r) : L[q]? = some (r.i, r.it) := by
  rw [h.plan, List.getElem?_append_left (by have := (List.getElem?_eq_some_iff.1 hq).1; simpa using this)]
  simp [hq]

theorem Inv.uniq (hp : PlanOk P N ops L) (h : Inv P N ops L Q tm0 e0 w0 listed a w done rest st e) {q q' : Nat} {r r' : Rec} (hq : done[q]? = some r) (hq' : done[q']? = some r') {d : Nat} (hd : r.it.ins.dst = some d) (hd' : r'.it.ins.dst = some d) : q = q' := by
  rcases Nat.lt_trichotomy q q' with h1 | h1 | h1
  · exact absurd hd' (hp.dst q q' _ _ _ _ h1 (h.at hq) (h.at hq') d hd)
  · exact h1
  · exact absurd hd (hp.dst q' q _ _ _ _ h1 (h.at hq') (h.at hq) d hd')

theorem Inv.uniqI (hp : PlanOk P N ops L) (h : Inv P N ops L Q tm0 e0 w0 listed a w done rest st e) {q q' : Nat} {r r' : Rec} (hq : done[q]? = some r) (hq' : done[q']? = some r') (hd : r.i = r'.i) : q = q' := by
  rcases Nat.lt_trichotomy q q' with h1 | h1 | h1
  · exact absurd hd (hp.ne q q' _ _ _ _ h1 (h.at hq) (h.at hq'))
  · exact h1
  · exact absurd hd.symm (hp.ne q' q _ _ _ _ h1 (h.at hq') (h.at hq))

theorem Inv.umem (hp : PlanOk P N ops L) (h : Inv P N ops L Q tm0 e0 w0 listed a w done rest st e) {r r' : Rec} (hq : r ∈ done) (hq' : r' ∈ done) {d : Nat} (hd : r.it.ins.dst = some d) (hd' : r'.it.ins.dst = some d) : r = r' := by
  obtain ⟨q, h1⟩ := List.getElem?_of_mem hq
  obtain ⟨q', h2⟩ := List.getElem?_of_mem hq'
  have := h.uniq hp h1 h2 hd hd'
  subst this
  rw [h1] at h2
  injection h2

/-- Reads of a float agree wherever nothing behind it writes them. -/
theorem tmA_take {q : Nat} {r : Rec} (hown : isFloat r.it.ins = true → ∀ d, r.it.ins.dst = some d → d ∉ r.it.ins.reads) (hf : isFloat r.it.ins = true) (hq : done[q]? = some r)
    (h : ∀ (s : Nat) (r' : Rec), q < s → done[s]? = some r' → ∀ d, r'.it.ins.dst = some d → d ∉ r.it.ins.reads) : ∀ t ∈ r.it.ins.reads, tmA tm0 done t = tmA tm0 (done.take q) t := by
  intro t ht
  refine tmF_take fun s r' hs hr' hd => ?_
  rcases Nat.eq_or_lt_of_le hs with h1 | h1
  · subst h1
    rw [hq] at hr'
    injection hr' with hr'
    subst hr'
    exact hown hf t hd ht
  · exact h s r' h1 hr' t hd ht

theorem getD_set (listed : Array Bool) (i j : Nat) (hi : i < listed.size) : (listed.setIfInBounds i true).getD j false = if j = i then true else listed.getD j false := by
  simp only [Array.getD_eq_getD_getElem?, Array.getElem?_setIfInBounds]
  by_cases h : i = j
  · subst h; simp [hi]
  · rw [if_neg h, if_neg (fun hh => h hh.symm)]

theorem isL_set {listed : Array Bool} {i j : Nat} (hi : i < listed.size) : isL (listed.setIfInBounds i true) j ↔ (j = i ∨ isL listed j) := by
  unfold isL
  rw [getD_set listed i j hi]
  by_cases h : j = i <;> simp [h]

/-- Over the floats that follow. -/
theorem advance (hp : PlanOk P N ops L) : ∀ (rest : List (Nat × DItem)) (done : List Rec) (st : ASt) (e : Emb), Inv P N ops L Q tm0 e0 w0 listed a w done rest st e →
    ∃ done' rest' st' e', Inv P N ops L Q tm0 e0 w0 listed a w done' rest' st' e' ∧ ∀ p r, rest' = p :: r → isFloat p.2.ins = false := by
  intro rest
  induction rest with
  | nil => intro done st e h; exact ⟨done, [], st, e, h, fun p r hh => by cases hh⟩
  | cons p rest ih =>
    intro done st e h
    cases hf : isFloat p.2.ins with
    | false => exact ⟨done, p :: rest, st, e, h, fun p' r hh => by injection hh with h1 h2; subst h1; exact hf⟩
    | true =>
      obtain ⟨i, it⟩ := p
      obtain ⟨ins, chk⟩ := it
      cases ins with
      | call => simp [isFloat] at hf
      | op d g o =>
      have hgo := h.go
      simp only [List.map_cons, swpD, stepI, stepV] at hgo
      have hnl : ¬ isL listed i := h.rest (i, ⟨.op d g o, chk⟩) (List.mem_cons_self ..)
      have hL : L[done.length]? = some (i, ⟨.op d g o, chk⟩) := by rw [h.plan, List.getElem?_append_right (by simp)]; simp
      have hnd : ∀ r' ∈ done, ∀ d', r'.it.ins.dst = some d' → (AI.op d g o).dst ≠ some d' := by
        intro r' hr' d' hd'
        obtain ⟨q, hq⟩ := List.getElem?_of_mem hr'
        exact hp.dst q done.length _ _ _ _ (List.getElem?_eq_some_iff.1 hq).1 (h.at hq) hL d' hd'
      have hlist : ∀ b x, tmL listed tm0 (done ++ [⟨i, ⟨.op d g o, chk⟩, x, b⟩]) = tmL listed tm0 done := fun b x => tmF_skip (by simpa [isL] using hnl)
      have hall : ∀ b x, tmA tm0 (done ++ [⟨i, ⟨.op d g o, chk⟩, x, b⟩]) = updO (tmA tm0 done) d x := fun b x => tmF_append rfl hnd
      have htk : ∀ (r1 : Rec), (done ++ [r1]).take done.length = done := fun r1 => by simp
      have htk' : ∀ (r1 : Rec) (q : Nat), q < done.length → (done ++ [r1]).take q = done.take q := fun r1 q hq => by rw [List.take_append_of_le_length (by omega)]
      -- the step, where a record and the new state are given
      have fin : ∀ (x : AV) (b : Nat) (H' : AHeap) (e' : Emb), HRel e' H' w → Evo e w e' w → st.heap.next ≤ H'.next →
          (∀ (q : Nat) (r : Rec), done[q]? = some r → ¬ isL listed r.i → Pend e' ⟨updO st.tm d x, H'⟩ (tmA tm0 (done.take q)) r) →
          Pend e' ⟨updO st.tm d x, H'⟩ st.tm ⟨i, ⟨.op d g o, chk⟩, x, b⟩ →
          (isNew st.tm (.op d g o) = true → b = st.heap.next ∧ b < H'.next) →
          swpD P (done.map (·.it.ins) ++ [.op d g o]) (rest.map (·.2)) Q ⟨updO st.tm d x, H'⟩ →
          ∃ done' rest' st' e', Inv P N ops L Q tm0 e0 w0 listed a w done' rest' st' e' ∧ ∀ p r, rest' = p :: r → isFloat p.2.ins = false := by
        intro x b H' e' hH hv hn hpend hme hnew hgo'
        refine ih (done ++ [⟨i, ⟨.op d g o, chk⟩, x, b⟩]) ⟨updO st.tm d x, H'⟩ e' ⟨?_, ?_, ?_, ?_, ?_, hH, ?_, h.evo.trans hv, ?_, ?_, ?_, h.down, h.lsize, h.size, h.defers⟩
        · rw [h.plan]; simp
        · show updO st.tm d x = _
          rw [hall, h.tm]
        · simpa using hgo'
        · exact fun p hp' => h.rest p (List.mem_cons_of_mem _ hp')
        · intro r hr hfr
          rcases List.mem_append.1 hr with hr | hr
          · exact h.heavy r hr hfr
          · simp only [List.mem_cons, List.not_mem_nil, or_false] at hr
            subst hr
            rw [hf] at hfr
            cases hfr
        · rw [hlist]
          exact h.trel.evo hv
        · intro q r hq hl
          rcases Nat.lt_trichotomy q done.length with h1 | h1 | h1
          · rw [List.getElem?_append_left h1] at hq
            rw [htk' _ q h1]
            exact hpend q r hq hl
          · subst h1
            rw [List.getElem?_append_right (Nat.le_refl _)] at hq
            simp at hq
            subst hq
            rw [htk, ← h.tm]
            exact hme
          · rw [List.getElem?_eq_none (by simp; omega)] at hq
            cases hq
        · intro q r hq hi
          rcases Nat.lt_trichotomy q done.length with h1 | h1 | h1
          · rw [List.getElem?_append_left h1] at hq
            rw [htk' _ q h1] at hi
            have := h.newlt q r hq hi
            exact ⟨this.1, Nat.lt_of_lt_of_le this.2 hn⟩
          · subst h1
            rw [List.getElem?_append_right (Nat.le_refl _)] at hq
            simp at hq
            subst hq
            rw [htk, ← h.tm] at hi
            obtain ⟨h2, h3⟩ := hnew hi
            refine ⟨?_, h3⟩
            show e0.next ≤ b
            rw [h2, ← h.heap.next]
            exact h.evo.next
          · rw [List.getElem?_eq_none (by simp; omega)] at hq
            cases hq
        · intro q q' r r' hqq hq hq' hi hi'
          have hlt : q' < done.length + 1 := by have := (List.getElem?_eq_some_iff.1 hq').1; simpa using this
          rw [List.getElem?_append_left (by omega)] at hq
          rw [htk' _ q (by omega)] at hi
          rcases Nat.lt_or_ge q' done.length with h1 | h1
          · rw [List.getElem?_append_left h1] at hq'
            rw [htk' _ q' h1] at hi'
            exact h.newinc q q' r r' hqq hq hq' hi hi'
          · have : q' = done.length := by omega
            subst this
            rw [List.getElem?_append_right (Nat.le_refl _)] at hq'
            simp at hq'
            subst hq'
            rw [htk, ← h.tm] at hi'
            obtain ⟨h2, h3⟩ := hnew hi'
            show r.b < b
            rw [h2]
            exact (h.newlt q r hq hi).2
      have hsame : ∀ (tm' : Nat → AV) (r : Rec) (tq : Nat → AV), Pend e st tq r → Pend e ⟨tm', st.heap⟩ tq r := fun tm' r tq hh => hh
      split at hgo
      · rename_i hg
        obtain ⟨x, H', h1, h2, h3⟩ := hgo
        cases hk : okind o with
        | heavy => simp [isFloat, hk] at hf
        | same =>
          have := same_heap hk h1
          subst this
          refine fin x 0 st.heap e h.heap (Evo.refl e w) (Nat.le_refl _) (fun q r hq hl => hsame _ _ _ (h.pend q r hq hl)) ?_ ?_ h3
          · simp only [Pend]
            rw [if_pos hg]
            exact .inl ⟨hk, x, h1, fun _ => rfl⟩
          · intro hn
            simp [isNew, hk] at hn
        | new =>
          obtain ⟨l, mk, h4, rfl, rfl⟩ := new_aop hk h1
          obtain ⟨h5, h6⟩ := h.heap.laid (.cells l)
          refine fin (mk st.heap.next) st.heap.next (st.heap.new (.cells l)) _ h5 h6 (Nat.le_succ _) (fun q r hq hl => ?_) ?_ ?_ h3
          · have hpd := h.pend q r hq hl
            unfold Pend at hpd ⊢
            split
            · rename_i d' g' o' hins
              rw [hins] at hpd
              simp only at hpd
              split
              · rename_i hg'
                rw [if_pos hg'] at hpd
                rcases hpd with ⟨k1, x', k2, k3⟩ | ⟨l', mk', k1, k2, k3, k4⟩
                · exact .inl ⟨k1, x', same_more k1 (fun b o hb => h.heap.get b o hb) k2 _, k3⟩
                · refine .inr ⟨l', mk', k1, ?_, k3, k4⟩
                  show (st.heap.new _).get r.b = _
                  rw [new_get, if_neg (by have := h.heap.get _ _ k2; omega)]
                  exact k2
              · rename_i hg'
                rw [if_neg hg'] at hpd
                exact hpd
            · rename_i hins
              rw [hins] at hpd
              exact hpd
          · simp only [Pend]
            rw [if_pos hg]
            refine .inr ⟨l, mk, h4, ?_, ?_, rfl⟩
            · show (st.heap.new _).get _ = _
              rw [new_get, if_pos rfl]
            · exact h.heap.fresh _ (Nat.le_refl _)
          · exact fun _ => ⟨rfl, Nat.lt_succ_self _⟩
      · rename_i hg
        obtain ⟨h2, h3⟩ := hgo
        refine fin uv 0 st.heap e h.heap (Evo.refl e w) (Nat.le_refl _) (fun q r hq hl => hsame _ _ _ (h.pend q r hq hl)) ?_ ?_ h3
        · simp [Pend, hg]
        · intro hn
          simp only [isNew, Bool.and_eq_true] at hn
          exact absurd hn.1 hg

end
end Go.Proofs.Ytooaiddfokbffaa.E
