/- The model's operation follows the abstract one: builtins, and all together. Conditions: none. -/
import Derived.Test.YtooaiddfokbffaaE10
set_option linter.unusedVariables false
set_option linter.unusedSimpArgs false
namespace Go.Proofs.Ytooaiddfokbffaa.E
open Go

section
variable {e : Emb} {w : World} {H : AHeap} {P : Program} {tm : Nat → AV} {a : Act}

theorem go_len_str (hH : HRel e H w) {t ty : TypeId} (ht : P.underlying t = some .string) {x : AV} {u : Value} (hx : VRel e w x u) {n : Nat} (h : alen H .str x = some n) : Goes P (Builtin.len_ #[t] ty #[u]) e w (.v (.int .i64 n)) H := by
  unfold alen at h
  split at h <;> first | (cases h; done) | skip
  all_goals (rename_i h1; try (cases h1; done))
  all_goals (try (cases h; done))
  all_goals (injection h with h; subst h; cases hx; exact .stay hH (by simp [Builtin.len_, run_underlying ht, goInt]) (.v _ rfl))

theorem go_len_slice (hH : HRel e H w) {t ty el : TypeId} (ht : P.underlying t = some (.slice el)) {x : AV} {u : Value} (hx : VRel e w x u) {n : Nat} (h : alen H .slice x = some n) : Goes P (Builtin.len_ #[t] ty #[u]) e w (.v (.int .i64 n)) H := by
  cases hx with
  | v _ hv =>
    cases u with
    | slice b l c =>
      cases b with
      | none =>
        simp only [alen] at h
        split at h
        · rename_i hl
          injection h with h
          subst h hl
          exact .stay hH (by simp [Builtin.len_, run_underlying ht, goInt]) (.v _ rfl)
        · cases h
      | some b => simp [alen] at h
    | _ => simp [alen] at h
  | slc => simp only [alen, Option.some.injEq] at h; subst h; exact .stay hH (by simp [Builtin.len_, run_underlying ht, goInt]) (.v _ rfl)
  | ro => simp only [alen, Option.some.injEq] at h; subst h; exact .stay hH (by simp [Builtin.len_, run_underlying ht, goInt]) (.v _ rfl)
  | _ => simp [alen] at h

theorem go_len_map (hH : HRel e H w) {t ty k el : TypeId} (ht : P.underlying t = some (.map k el)) {x : AV} {u : Value} (hx : VRel e w x u) {n : Nat} (h : alen H .map x = some n) : Goes P (Builtin.len_ #[t] ty #[u]) e w (.v (.int .i64 n)) H := by
  cases hx with
  | v _ hv =>
    cases u with
    | map m =>
      cases m with
      | none =>
        simp only [alen, Option.some.injEq] at h
        subst h
        exact .stay hH (by simp [Builtin.len_, run_underlying ht, goInt]) (.v _ rfl)
      | some b => simp [alen] at h
    | _ => simp [alen] at h
  | mp b r hm =>
    simp only [alen] at h
    split at h
    · rename_i es cl hg
      injection h with h
      subst h
      obtain ⟨_, ens, h1, h2, h3⟩ := hH.obj b _ r hg hm
      refine .stay hH ?_ (.v _ rfl)
      simp [Builtin.len_, run_underlying ht, goInt, getObj, Sem.run, h1, h2]
    · cases h
  | _ => simp [alen] at h

theorem go_mm (hH : HRel e H w) (isMax : Bool) (ts : Array TypeId) (ty : TypeId) {x y : AV} {u v : Value} (hx : VRel e w x u) (hy : VRel e w y v) {r : AV} (h : amm isMax x y = some r) :
    Goes P (if isMax then Builtin.max_ ts ty #[u, v] else Builtin.min_ ts ty #[u, v]) e w r H := by
  unfold amm at h
  split at h
  · injection h with h
    subst h
    cases hx
    cases hy
    cases isMax
    · exact .stay hH (by simp [Builtin.min_, Builtin.min2]) (.v _ rfl)
    · exact .stay hH (by simp [Builtin.max_, Builtin.max2]) (.v _ rfl)
  · cases h

theorem sound_call (hH : HRel e H w) (hT : TRel e w tm a) {c : Call} {ao : AOp} (hc : compCall P c = some ao) {r : AV} {H' : AHeap} (h : aop tm H ao = some (r, H')) (o : Oper) (ho : o.op = .call c) : OpGoes P a.eval o e w r H' := by
  obtain ⟨callee, args, argTypes⟩ := c
  have hargs : ∀ l, args.toList = l → args = l.toArray := fun l hl => by rw [← hl]
  have htypes : ∀ l, argTypes.toList = l → argTypes = l.toArray := fun l hl => by rw [← hl]
  unfold compCall at hc
  simp only at hc
  split at hc
  · rename_i x t h1 h2
    have e1 := hargs _ h1
    have e2 := htypes _ h2
    subst e1 e2
    have fin : ∀ {n : Nat}, Goes P (Builtin.len_ #[t] o.type #[a.eval x]) e w (.v (.int .i64 n)) H → OpGoes P a.eval o e w (.v (.int .i64 n)) H := fun hg =>
      .of hg fun u w' hr => by simp [execOp, ho, resolve, invoke, builtin, hr]
    split at hc
    · rename_i x' ht hx
      injection hc with hc
      subst hc
      simp only [aop, Option.map_eq_some_iff, Prod.mk.injEq] at h
      obtain ⟨n, h3, rfl, rfl⟩ := h
      exact fin (go_len_str hH ht (carg_rel hT hx) h3)
    · rename_i el x' ht hx
      injection hc with hc
      subst hc
      simp only [aop, Option.map_eq_some_iff, Prod.mk.injEq] at h
      obtain ⟨n, h3, rfl, rfl⟩ := h
      exact fin (go_len_slice hH ht (carg_rel hT hx) h3)
    · rename_i k el x' ht hx
      injection hc with hc
      subst hc
      simp only [aop, Option.map_eq_some_iff, Prod.mk.injEq] at h
      obtain ⟨n, h3, rfl, rfl⟩ := h
      exact fin (go_len_map hH ht (carg_rel hT hx) h3)
    · cases hc
  · rename_i s x t t' h1 h2
    have e1 := hargs _ h1
    have e2 := htypes _ h2
    subst e1 e2
    split at hc
    case h_2 => cases hc
    rename_i el s' x' ht hs hx
    split at hc
    case h_2 => cases hc
    rename_i i z hi hz
    split at hc
    case isFalse => cases hc
    rename_i hcond
    obtain ⟨rfl, hzl⟩ := hcond
    injection hc with hc
    subst hc
    simp only [aop] at h
    obtain ⟨i', zv, hi', hzv, hzr⟩ := tZero_rel hz
    have : i' = i := by rw [hi] at hi'; injection hi' with hi'; exact hi'.symm
    subst this
    have hzs : zv.cells.size = i'.size := by rw [← Array.length_toList, (hzr e w).1, hzl]
    exact .of (go_append (ty := o.type) hH ht hi hzv hzs (carg_rel hT hs) (carg_rel hT hx) h) fun u w' hr => by simp [execOp, ho, resolve, invoke, builtin, hr]
  · rename_i x y h1
    have e1 := hargs _ h1
    subst e1
    split at hc
    case h_2 => cases hc
    rename_i x' y' hx hy
    injection hc with hc
    subst hc
    simp only [aop, Option.map_eq_some_iff, Prod.mk.injEq] at h
    obtain ⟨r', h3, rfl, rfl⟩ := h
    have hg := go_mm (P := P) hH false argTypes o.type (carg_rel hT hx) (carg_rel hT hy) h3
    exact .of hg fun u w' hr => by
      simp only [Bool.false_eq_true, if_false] at hr
      simp [execOp, ho, resolve, invoke, builtin, hr]
  · rename_i x y h1
    have e1 := hargs _ h1
    subst e1
    split at hc
    case h_2 => cases hc
    rename_i x' y' hx hy
    injection hc with hc
    subst hc
    simp only [aop, Option.map_eq_some_iff, Prod.mk.injEq] at h
    obtain ⟨r', h3, rfl, rfl⟩ := h
    have hg := go_mm (P := P) hH true argTypes o.type (carg_rel hT hx) (carg_rel hT hy) h3
    exact .of hg fun u w' hr => by
      simp only [if_true] at hr
      simp [execOp, ho, resolve, invoke, builtin, hr]
  · cases hc

end
end Go.Proofs.Ytooaiddfokbffaa.E
