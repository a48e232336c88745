/- The model's operation follows the abstract one: all operations that are taken. Conditions: none. -/
import Derived.Test.YtooaiddfokbffaaE9
set_option linter.unusedVariables false
set_option linter.unusedSimpArgs false
namespace Go.Proofs.Ytooaiddfokbffaa.E
open Go

section
variable {e : Emb} {w : World} {H : AHeap} {P : Program} {tm : Nat → AV} {a : Act}

theorem sound_bin (hH : HRel e H w) (hT : TRel e w tm a) {op : BinOp} {t : TypeId} {x y : Operand} {ao : AOp} (hc : compBin P op t x y = some ao) {r : AV} {H' : AHeap} (h : aop tm H ao = some (r, H')) :
    Goes P (do eqGuard op t x y (a.eval x) (a.eval y); binOp op t (a.eval x) (a.eval y)) e w r H' := by
  unfold compBin at hc
  split at hc
  · rename_i k x' y' ht hx hy
    injection hc with hc
    subst hc
    have hvx := carg_rel hT hx
    have hvy := carg_rel hT hy
    simp only [aop] at h
    split at h
    · rename_i k1 n1 k2 n2 e1 e2
      rw [e1] at hvx
      rw [e2] at hvy
      generalize a.eval x = u at *
      generalize a.eval y = v at *
      cases hvx
      cases hvy
      split at h
      · rename_i hs
        simp only [Option.map_eq_some_iff, Prod.mk.injEq] at h
        obtain ⟨r', h1, rfl, rfl⟩ := h
        obtain ⟨h2, h3⟩ := ishift_run (P := P) (w := w) (k' := k2) h1 t x y
        exact .stay hH h2 (.v _ h3)
      · split at h
        · rename_i hs hk
          subst hk
          simp only [Option.map_eq_some_iff, Prod.mk.injEq] at h
          obtain ⟨r', h1, rfl, rfl⟩ := h
          obtain ⟨h2, h3⟩ := ibin_run (P := P) (w := w) h1 t x y
          exact .stay hH h2 (.v _ h3)
        · cases h
    · cases h
  · rename_i x' y' ht hx hy
    injection hc with hc
    subst hc
    have hvx := carg_rel hT hx
    have hvy := carg_rel hT hy
    simp only [aop] at h
    split at h
    · rename_i n1 n2 e1 e2
      rw [e1] at hvx
      rw [e2] at hvy
      generalize a.eval x = u at *
      generalize a.eval y = v at *
      cases hvx
      cases hvy
      simp only [Option.map_eq_some_iff, Prod.mk.injEq] at h
      obtain ⟨r', h1, rfl, rfl⟩ := h
      obtain ⟨h2, h3⟩ := sbin_run (P := P) (w := w) h1 t x y
      exact .stay hH h2 (.v _ h3)
    · cases h
  · rename_i x' y' ht hx hy
    have hvx := carg_rel hT hx
    have hvy := carg_rel hT hy
    have key : ∀ neq : Bool, aop tm H (.bbin neq x' y') = some (r, H') → Goes P (do eqGuard (if neq then .neq else .eql) t x y (a.eval x) (a.eval y); binOp (if neq then .neq else .eql) t (a.eval x) (a.eval y)) e w r H' := by
      intro neq h
      simp only [aop] at h
      split at h
      · rename_i n1 n2 e1 e2
        rw [e1] at hvx
        rw [e2] at hvy
        generalize a.eval x = u at *
        generalize a.eval y = v at *
        cases hvx
        cases hvy
        simp only [Option.some.injEq, Prod.mk.injEq] at h
        obtain ⟨rfl, rfl⟩ := h
        exact .stay hH (bbin_run ht neq n1 n2 x y) (.v _ rfl)
      · cases h
    split at hc
    · injection hc with hc
      subst hc
      exact key false h
    · injection hc with hc
      subst hc
      exact key true h
    · cases hc
  · rename_i fs x' y' ht hx hy
    have hvx := carg_rel hT hx
    have hvy := carg_rel hT hy
    have key : ∀ (neq : Bool) (ks : List FK), flatF P 0 fs.toList = some ks → P.stoodInHeld t = false → P.eqGuardType P.depth t = false → aop tm H (.ebin neq ks x' y') = some (r, H') →
        Goes P (do eqGuard (if neq then .neq else .eql) t x y (a.eval x) (a.eval y); binOp (if neq then .neq else .eql) t (a.eval x) (a.eval y)) e w r H' := by
      intro neq ks hf hst hg h
      simp only [aop] at h
      split at h
      · rename_i l1 l2 e1 e2
        rw [e1] at hvx
        rw [e2] at hvy
        generalize a.eval x = u at *
        generalize a.eval y = v at *
        simp only [Option.map_eq_some_iff, Prod.mk.injEq] at h
        obtain ⟨r', h1, rfl, rfl⟩ := h
        cases hvx with
        | agg _ xs hn1 hv1 =>
        cases hvy with
        | agg _ ys hn2 hv2 =>
        have L1 : LRel e w l1 xs.toList := ⟨by simpa using hn1, fun i x u q1 q2 => hv1 i x u q1 (by simpa using q2)⟩
        have L2 : LRel e w l2 ys.toList := ⟨by simpa using hn2, fun i x u q1 q2 => hv2 i x u q1 (by simpa using q2)⟩
        have hq : P.fieldsOf t = fs := by simp [Program.fieldsOf, ht]
        have he : (Op.equalIn 10000 t (.agg xs) (.agg ys)).run P w = .ok r' w := by
          rw [run_equalIn_struct w 9999 t xs ys (by rw [hq]; exact ht) hst, hq]
          exact aeqs_run 9998 fs.toList ks 0 l1 l2 xs ys r' hf (by simpa using L1) (by simpa using L2) h1
        refine .stay hH ?_ (.v _ rfl)
        rw [Sem.run_bind, run_eqGuard_agg w _ t x y xs ys hg, Result.andThen_ok, run_eql_any neq t _ _ (by simp) (by simp) (by simp) (by simp)]
        show ((Op.equalIn 10000 t (.agg xs) (.agg ys)).run P w).andThen _ = _
        rw [he, Result.andThen_ok]
      · cases h
    split at hc
    · rename_i ks hf
      split at hc
      · rename_i hg
        injection hc with hc
        subst hc
        exact key false ks hf hg.1 hg.2 h
      · cases hc
    · rename_i ks hf
      split at hc
      · rename_i hg
        injection hc with hc
        subst hc
        exact key true ks hf hg.1 hg.2 h
      · cases hc
    · cases hc
  · rename_i d x' ht hx hn1 hn2 hn3 hn4
    have hvx := carg_rel hT hx
    have key : ∀ (neq : Bool) (k : NKind), nilD d y = some k → aop tm H (.nbin neq k x') = some (r, H') →
        Goes P (do eqGuard (if neq then .neq else .eql) t x y (a.eval x) (a.eval y); binOp (if neq then .neq else .eql) t (a.eval x) (a.eval y)) e w r H' := by
      intro neq k hk h
      simp only [aop, Option.map_eq_some_iff, Prod.mk.injEq] at h
      obtain ⟨r', h1, rfl, rfl⟩ := h
      have hy : ∃ z, y = .const z := by
        cases y with
        | const z => exact ⟨z, rfl⟩
        | _ => cases d <;> simp [nilD] at hk
      obtain ⟨z, rfl⟩ := hy
      obtain ⟨q1, q2, q3, q4, q5, q6⟩ := nbin_equal ht hk hvx h1
      refine .stay hH ?_ (.v _ rfl)
      show (do eqGuard _ t x (.const z) (a.eval x) z; binOp _ t (a.eval x) z).run P w = _
      rw [q2, Sem.run_bind, Sem.run_pure, Result.andThen_ok, run_eql_any neq t _ _ q3 q4 q5 q6]
      show ((Op.equalIn (9999 + 1) t _ _).run P w).andThen _ = _
      rw [q1 9999, Result.andThen_ok]
    split at hc
    · rename_i k hk
      injection hc with hc
      subst hc
      exact key false k hk h
    · rename_i k hk
      injection hc with hc
      subst hc
      exact key true k hk h
    · cases hc
  · cases hc

end
end Go.Proofs.Ytooaiddfokbffaa.E
