/- Places, slices, make and append. Conditions: none. -/
import Derived.Test.YtooaiddfokbffaaE5
set_option linter.unusedVariables false
set_option linter.unusedSimpArgs false
namespace Go.Proofs.Ytooaiddfokbffaa.E
open Go

section
variable {e : Emb} {w : World} {H : AHeap} {P : Program}

theorem ptr_add {b off n c : Nat} (h : e.map b = some c) : VRel e w (.ptr b (off + n)) (.pointer (some ((⟨c, off, none⟩ : Addr).add n))) := by
  rw [addr_add_plain]
  exact .ptr _ _ _ h

theorem rop_add {cells : List AV} {off n : Nat} {a : Addr} {us : List Value} (hn : us.length = cells.length) (hs : ∀ (i : Nat) (u : Value), us[i]? = some u → w.cell? (a.add i) = some u ∧ ¬ e.hits a.block)
    (hr : ∀ (i : Nat) (x : AV) (u : Value), cells[i]? = some x → us[i]? = some u → VRel e w x u) : VRel e w (.rop cells (off + n)) (.pointer (some ((a.add off).add n))) := by
  rw [addr_add_add]
  exact .rop cells (off + n) a us hn hs hr

theorem run_fieldAt {t : TypeId} {fs : Array Field} (ht : P.underlying t = some (.struct fs)) {f : Nat} {fd : Field} (hf : fs[f]? = some fd) {n : Nat} (hs : tSize P fd.type = some (n + 1)) (a : Addr) :
    (Instr.fieldAt t (.pointer (some a)) f).run P w = .ok (.pointer (some (a.add fd.offset))) w := by
  simp only [tSize, Option.map_eq_some_iff] at hs
  obtain ⟨j, hj, hsz⟩ := hs
  simp [Instr.fieldAt, run_underlying ht, hf, Instr.sureAddr, fieldPlace, sizeOf, typeInfo, hj, hsz]

theorem go_fld (hH : HRel e H w) {t : TypeId} {fs : Array Field} (ht : P.underlying t = some (.struct fs)) {f : Nat} {fd : Field} (hf : fs[f]? = some fd) {n : Nat} (hs : tSize P fd.type = some (n + 1))
    {x : AV} {u : Value} (hx : VRel e w x u) {y : AV} (h : afld fd.offset x = some y) : Goes P (Instr.fieldAt t u f) e w y H := by
  cases hx <;> simp only [afld, Option.some.injEq] at h <;> (try (cases h; done))
  case ptr b off c hc => subst h; exact .stay hH (run_fieldAt ht hf hs _) (ptr_add hc)
  case rop cells off a us hn hs' hr => subst h; exact .stay hH (run_fieldAt ht hf hs _) (rop_add hn hs' hr)

theorem run_idx {t el : TypeId} (ht : P.underlying t = some (.slice el)) {es : Nat} (hs : tSize P el = some es) (a : Addr) (len k : Nat) (kd : IntKind) (i : Int) (h : 0 ≤ i ∧ i < len) :
    (Instr.indexAt t (.slice (some a) len k) (.int kd i)).run P w = .ok (.pointer (some (a.add (i.toNat * es)))) w := by
  simp only [tSize, Option.map_eq_some_iff] at hs
  obtain ⟨j, hj, hsz⟩ := hs
  simp [Instr.indexAt, asIntOf, run_underlying ht, h, sizeOf, typeInfo, hj, hsz]

theorem run_idxA {t el : TypeId} {n : Nat} (ht : P.underlying t = some (.array n el)) {es : Nat} (hs : tSize P el = some es) (a : Addr) (kd : IntKind) (i : Int) (h : 0 ≤ i ∧ i < n) :
    (Instr.indexAt t (.pointer (some a)) (.int kd i)).run P w = .ok (.pointer (some (a.add (i.toNat * es)))) w := by
  simp only [tSize, Option.map_eq_some_iff] at hs
  obtain ⟨j, hj, hsz⟩ := hs
  simp [Instr.indexAt, asIntOf, run_underlying ht, h, sizeOf, typeInfo, hj, hsz, Instr.sureAddr]

theorem go_idx (hH : HRel e H w) {t el : TypeId} (ht : P.underlying t = some (.slice el)) {es : Nat} (hs : tSize P el = some es) {x : AV} {u : Value} (hx : VRel e w x u) {kd : IntKind} {i : Int} {y : AV}
    (h : aix es i x = some y) :
    Goes P (Instr.indexAt t u (.int kd i)) e w y H := by
  cases hx <;> simp only [aix] at h <;> (try (cases h; done))
  case slc b off es' len lo ex c k hm hl hlo hc cs t' fr hw hsz =>
    split at h
    · rename_i hi
      injection h with h
      subst h
      exact .stay hH (run_idx ht hs _ len k kd i hi) (ptr_add hm)
    · cases h
  case ro len lo ex cells a k us hl hlo hc hn hs' hr =>
    split at h
    · rename_i hi
      injection h with h
      subst h
      exact .stay hH (run_idx ht hs a len k kd i hi) (.rop cells _ a us hn hs' hr)
    · cases h

theorem go_idxA (hH : HRel e H w) {t el : TypeId} {len : Nat} (ht : P.underlying t = some (.array len el)) {es : Nat} (hs : tSize P el = some es) {x : AV} {u : Value} (hx : VRel e w x u) {kd : IntKind} {i : Int} {y : AV}
    (h : aixA len es i x = some y) :
    Goes P (Instr.indexAt t u (.int kd i)) e w y H := by
  cases hx <;> simp only [aixA] at h <;> (try (cases h; done))
  case ptr b off c hc =>
    split at h
    · rename_i hi
      injection h with h
      subst h
      exact .stay hH (run_idxA ht hs _ kd i hi) (ptr_add hc)
    · cases h
  case rop cells off a us hn hs' hr =>
    split at h
    · rename_i hi
      injection h with h
      subst h
      exact .stay hH (run_idxA ht hs _ kd i hi) (rop_add hn hs' hr)
    · cases h

/-! ### Cutting -/
theorem anat_rel {x : Option AV} {u : Option Value} (hx : (x = none ∧ u = none) ∨ ∃ y v, x = some y ∧ u = some v ∧ VRel e w y v) {r : Option Nat} (h : anat x = some r) :
    (r = none ∧ u = none) ∨ ∃ k n, r = some n ∧ u = some (.int k (n : Int)) := by
  rcases hx with ⟨rfl, rfl⟩ | ⟨y, v, rfl, rfl, hv⟩
  · simp only [anat, Option.some.injEq] at h
    exact .inl ⟨h.symm, rfl⟩
  · unfold anat at h
    split at h
    · rename_i heq; cases heq
    · rename_i k n heq
      split at h
      · rename_i hn
        injection h with h
        injection heq with heq
        subst heq h
        cases hv
        exact .inr ⟨k, n.toNat, rfl, by rw [Int.toNat_of_nonneg hn]⟩
      · cases h
    · cases h

theorem run_bound (k : IntKind) (n y : Nat) (code : BoundsCode) (h : n ≤ y) : (Instr.sliceBound (.int k (n : Int)) y code).run P w = .ok n w := by
  simp [Instr.sliceBound, asIntOf]
  omega

theorem run_bounds {len k L : Nat} {ex : Bool} (hL : L ≤ k) (hex : ex = true → k = L) {lo hi mx : Option Value} {l h m : Option Nat}
    (hlo : (l = none ∧ lo = none) ∨ ∃ kd n, l = some n ∧ lo = some (.int kd (n : Int))) (hhi : (h = none ∧ hi = none) ∨ ∃ kd n, h = some n ∧ hi = some (.int kd (n : Int)))
    (hmx : (m = none ∧ mx = none) ∨ ∃ kd n, m = some n ∧ mx = some (.int kd (n : Int))) {l' h' m' : Nat} {ex' : Bool} (hc : acut L ex len l h m = some (l', h', m', ex')) :
    ∃ M, (Instr.sliceBounds true len k lo hi mx).run P w = .ok (l', h', M) w ∧ l' ≤ h' ∧ h' ≤ M ∧ M ≤ k ∧ m' ≤ M - l' ∧ (ex' = true → M - l' = m') ∧ h' - l' ≤ m' ∧ l' + m' ≤ L := by
  unfold acut at hc
  rcases hmx with ⟨rfl, rfl⟩ | ⟨km, nm, rfl, rfl⟩
  · simp only at hc
    split at hc
    · rename_i hle
      simp only [Option.some.injEq, Prod.mk.injEq] at hc
      obtain ⟨rfl, rfl, rfl, rfl⟩ := hc
      refine ⟨k, ?_, hle.1, by omega, Nat.le_refl _, by omega, fun hx => by rw [hex hx], by omega, by omega⟩
      rcases hhi with ⟨rfl, rfl⟩ | ⟨kh, nh, rfl, rfl⟩ <;> rcases hlo with ⟨rfl, rfl⟩ | ⟨kl, nl, rfl, rfl⟩ <;> simp only [Option.getD_none, Option.getD_some] at hle ⊢
      · simp [Instr.sliceBounds]
      · simp [Instr.sliceBounds, run_bound kl nl len _ hle.1]
      · simp [Instr.sliceBounds, run_bound kh nh k _ (by omega)]
      · simp [Instr.sliceBounds, run_bound kh nh k _ (by omega), run_bound kl nl nh _ hle.1]
    · cases hc
  · rcases hhi with ⟨rfl, rfl⟩ | ⟨kh, nh, rfl, rfl⟩
    · simp at hc
    · simp only at hc
      split at hc
      · rename_i hle
        simp only [Option.some.injEq, Prod.mk.injEq] at hc
        obtain ⟨rfl, rfl, rfl, rfl⟩ := hc
        simp only [Option.getD_some] at hle ⊢
        refine ⟨nm, ?_, hle.1, hle.2.1, by omega, Nat.le_refl _, fun _ => rfl, by omega, by omega⟩
        rcases hlo with ⟨rfl, rfl⟩ | ⟨kl, nl, rfl, rfl⟩ <;> simp only [Option.getD_none, Option.getD_some] at hle ⊢
        · simp [Instr.sliceBounds, run_bound km nm k _ (by omega), run_bound kh nh nm _ hle.2.1]
        · simp [Instr.sliceBounds, run_bound km nm k _ (by omega), run_bound kh nh nm _ hle.2.1, run_bound kl nl nh _ hle.1]
      · cases hc

theorem go_slice (hH : HRel e H w) {t el : TypeId} (ht : P.underlying t = some (.slice el)) {es : Nat} (hs : tSize P el = some es) {x : AV} {u : Value} (hx : VRel e w x u)
    {lo hi mx : Option Value} {l h m : Option Nat}
    (hlo : (l = none ∧ lo = none) ∨ ∃ kd n, l = some n ∧ lo = some (.int kd (n : Int))) (hhi : (h = none ∧ hi = none) ∨ ∃ kd n, h = some n ∧ hi = some (.int kd (n : Int)))
    (hmx : (m = none ∧ mx = none) ∨ ∃ kd n, m = some n ∧ mx = some (.int kd (n : Int))) {y : AV} (hy : aslice es x l h m = some y) : Goes P (Instr.sliceAt t u lo hi mx) e w y H := by
  have hat : ∀ (v : Value), (Instr.sliceAt t v lo hi mx).run P w = (Instr.slice t v lo hi mx).run P w := by
    intro v; simp [Instr.sliceAt, run_underlying ht]
  have hs' := hs
  simp only [tSize, Option.map_eq_some_iff] at hs'
  obtain ⟨j, hj, hsz⟩ := hs'
  have hrun : ∀ (a : Addr) (len k l' h' M : Nat), (Instr.sliceBounds true len k lo hi mx).run P w = .ok (l', h', M) w →
      (Instr.slice t (.slice (some a) len k) lo hi mx).run P w = .ok (.slice (some (if M = l' then a else a.add (l' * es))) (h' - l') (M - l')) w := by
    intro a len k l' h' M hb
    simp only [Instr.slice, Sem.run_bind, run_underlying ht, Result.andThen_ok, hb, sizeOf, typeInfo, run_program, hj, hsz, Sem.run_pure]
    split <;> rfl
  cases hx <;> simp only [aslice] at hy <;> (try (cases hy; done))
  case v hv =>
    split at hy
    · rename_i heq
      injection heq with heq
      split at hy
      · rename_i hz
        injection hy with hy
        subst hy heq
        refine .stay hH (u := .slice none 0 0) ?_ (.v _ rfl)
        rw [hat]
        have hb : (Instr.sliceBounds true 0 0 lo hi mx).run P w = .ok (0, 0, 0) w := by
          rcases hmx with ⟨rfl, rfl⟩ | ⟨km, nm, rfl, rfl⟩ <;> rcases hhi with ⟨rfl, rfl⟩ | ⟨kh, nh, rfl, rfl⟩ <;> rcases hlo with ⟨rfl, rfl⟩ | ⟨kl, nl, rfl, rfl⟩ <;>
            (simp only [Option.getD_none, Option.getD_some] at hz; obtain ⟨h1, h2, h3, h4⟩ := hz; (try subst h1); (try subst h2); (try subst h3)) <;> first | (simp at h4; done) | simp [Instr.sliceBounds, Instr.sliceBound, asIntOf]
        simp only [Instr.slice, Sem.run_bind, run_underlying ht, Result.andThen_ok, hb, sizeOf, typeInfo, run_program, hj, hsz, Sem.run_pure]
        rfl
      · cases hy
    all_goals (first | (cases hy; done) | (rename_i heq; cases heq; done) | skip)
    all_goals simp_all
  case slc b off es' len lo' ex c k hm0 hl hlo' hc cs t' fr hw hsz0 =>
    split at hy
    · rename_i l' h' m' ex' hcut
      split at hy
      · rename_i hes
        subst hes
        obtain ⟨M, h1, h2, h3, h4, h5, h6, h7, h8⟩ := run_bounds (P := P) (w := w) (len := len) (L := max len lo') (k := k) (by omega) (fun hx => by have := hc hx; omega) hlo hhi hmx hcut
        split at hy
        · rename_i hm
          injection hy with hy
          subst hy
          refine .stay hH (by rw [hat, hrun _ len k _ _ _ h1, if_neg (by omega)]) ?_
          rw [addr_add_plain]
          have : l' * es' + (M - l') * es' ≤ k * es' := by rw [← Nat.add_mul]; exact Nat.mul_le_mul_right _ (by omega)
          exact .slc _ _ _ _ _ _ _ _ hm0 (by omega) h5 h6 cs t' fr hw (by omega)
        · rename_i hm
          injection hy with hy
          subst hy
          have e1 : h' - l' = 0 := by omega
          refine .stay hH (by rw [hat, hrun _ len k _ _ _ h1, e1]) ?_
          exact .ro 0 0 ex' [] _ _ [] (by omega) (by omega) (fun hx => by have := h6 hx; omega) rfl (fun i u h => by simp at h) (fun i x u h => by simp at h)
      · cases hy
    · cases hy
  case ro len lo' ex cells a k us hl hlo' hc hn hs'' hr =>
    split at hy
    · rename_i l' h' m' ex' hcut
      obtain ⟨M, h1, h2, h3, h4, h5, h6, h7, h8⟩ := run_bounds (P := P) (w := w) (len := len) (L := max len lo') (k := k) (by omega) (fun hx => by have := hc hx; omega) hlo hhi hmx hcut
      split at hy
      · rename_i hm
        injection hy with hy
        subst hy
        refine .stay hH (by rw [hat, hrun a len k _ _ _ h1, if_neg (by omega)]) ?_
        refine .ro _ _ _ _ _ _ (us.drop (l' * es)) (by omega) h5 h6 (by simp [hn]) (fun i u hu => ?_) fun i x u h1 h2 => ?_
        · rw [List.getElem?_drop] at hu
          rw [addr_add_add, addr_add_block]
          exact hs'' _ u hu
        · rw [List.getElem?_drop] at h1 h2
          exact hr _ x u h1 h2
      · rename_i hm
        injection hy with hy
        subst hy
        have e1 : h' - l' = 0 := by omega
        refine .stay hH (by rw [hat, hrun _ len k _ _ _ h1, e1]) ?_
        exact .ro 0 0 ex' [] _ _ [] (by omega) (by omega) (fun hx => by have := h6 hx; omega) rfl (fun i u h => by simp at h) (fun i x u h => by simp at h)
    · cases hy

end
end Go.Proofs.Ytooaiddfokbffaa.E
