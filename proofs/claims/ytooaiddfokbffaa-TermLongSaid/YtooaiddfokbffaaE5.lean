/- More operations: structs compared, places, slices, make, append. Conditions: none. -/
import Derived.Test.YtooaiddfokbffaaE4
set_option linter.unusedVariables false
set_option linter.unusedSimpArgs false
namespace Go.Proofs.Ytooaiddfokbffaa.E
open Go

def fkOf : TypeDesc → Option FK
  | .int _ => some .int
  | .bool => some .bool
  | .string => some .str
  | _ => none

/-- Fields that are plain cells, one behind the other: their kinds. -/
def flatF (P : Program) : Nat → List Field → Option (List FK)
  | _, [] => some []
  | k, f :: fs => if f.offset = k ∧ f.name ≠ "_" then
      match (P.underlying f.type).bind fkOf, flatF P (k + 1) fs with
      | some q, some qs => some (q :: qs)
      | _, _ => none
    else none

section
variable {e : Emb} {w : World} {H : AHeap} {P : Program}

theorem part_one {t : TypeId} {d : TypeDesc} (ht : P.underlying t = some d) (hd : aggD d = false) {cs : Array Value} {i : Nat} {u : Value} (h : cs[i]? = some u) : (part t cs i).run P w = .ok u w := by
  have hagg : (isAgg t).run P w = .ok false w := by
    simp only [isAgg, Sem.run_bind, run_underlying ht, Result.andThen_ok]
    cases d <;> first | rfl | (simp [aggD] at hd)
  simp [part, hagg, h]

theorem part_agg {t : TypeId} {d : TypeDesc} (ht : P.underlying t = some d) (hd : aggD d = true) {n : Nat} (hs : tSize P t = some n) {cs : Array Value} {i : Nat} :
    (part t cs i).run P w = .ok (.agg (cs.extract i (i + n))) w := by
  have hagg : (isAgg t).run P w = .ok true w := by
    simp only [isAgg, Sem.run_bind, run_underlying ht, Result.andThen_ok]
    cases d <;> first | rfl | (simp [aggD] at hd)
  simp only [tSize, Option.map_eq_some_iff] at hs
  obtain ⟨j, hj, hsz⟩ := hs
  simp [part, hagg, sizeOf, typeInfo, hj, hsz]

theorem go_part (hH : HRel e H w) {t : TypeId} {d : TypeDesc} (ht : P.underlying t = some d) {n : Nat} (hs : tSize P t = some n) {cs : List AV} {us : Array Value} (hx : LRel e w cs us.toList) {off : Nat}
    (hle : off + n ≤ cs.length) {y : AV} (h : apack (aggD d) ((cs.drop off).take n) = some y) : Goes P (part t us off) e w y H := by
  have hr := (hx.drop off).take n
  have hsz : us.size = cs.length := by rw [← Array.length_toList]; exact hx.1
  rcases apack_rel hr h with ⟨ha, hv⟩ | ⟨ha, v, h1, hv⟩
  · refine .stay hH (part_agg ht ha hs) ?_
    have : us.extract off (off + n) = ((us.toList.drop off).take n).toArray := by
      apply Array.ext'
      simp [List.take_drop]
    rw [this]
    exact hv
  · refine .stay hH (part_one ht ha ?_) hv
    have hl : ((us.toList.drop off).take n)[0]? = some v := by rw [h1]; rfl
    rw [List.getElem?_take] at hl
    split at hl
    · rw [List.getElem?_drop] at hl; simpa using hl
    · cases hl

theorem getD_drop {xs : Array Value} {k : Nat} {a : AV} {as : List AV} (h : LRel e w (a :: as) (xs.toList.drop k)) :
    ∃ u, xs[k]? = some u ∧ VRel e w a u ∧ LRel e w as (xs.toList.drop (k + 1)) := by
  rcases Nat.lt_or_ge k xs.toList.length with hk | hk
  · rw [List.drop_eq_getElem_cons hk] at h
    exact ⟨xs.toList[k], by simp, h.head, h.tail⟩
  · rw [List.drop_eq_nil_of_le hk] at h
    exact absurd h.1 (by simp)

theorem aeqs_run (d : Nat) : ∀ (fs : List Field) (ks : List FK) (k : Nat) (as bs : List AV) (xs ys : Array Value) (r : Bool), flatF P k fs = some ks → LRel e w as (xs.toList.drop k) → LRel e w bs (ys.toList.drop k) →
    aeqs ks as bs = some r → (Op.eqFields (d + 1) xs ys fs).run P w = .ok r w := by
  intro fs
  induction fs with
  | nil =>
    intro ks k as bs xs ys r hf h1 h2 hr
    simp only [flatF, Option.some.injEq] at hf
    subst hf
    cases as <;> cases bs <;> simp [aeqs] at hr
    subst hr
    rfl
  | cons f fs ih =>
    intro ks k as bs xs ys r hf h1 h2 hr
    simp only [flatF] at hf
    split at hf
    case isFalse => cases hf
    rename_i hon
    split at hf
    case h_2 => cases hf
    rename_i q qs hq hqs
    injection hf with hf
    subst hf
    obtain ⟨td, ht, htd⟩ := Option.bind_eq_some_iff.1 hq
    have hagg : aggD td = false := by cases td <;> simp_all [aggD, fkOf]
    have key : ∀ (a b : AV) (as' bs' : List AV) (u v : Value) (c : Bool), as = a :: as' → bs = b :: bs' → xs[k]? = some u → ys[k]? = some v → LRel e w as' (xs.toList.drop (k + 1)) → LRel e w bs' (ys.toList.drop (k + 1)) →
        (∃ r', aeqs qs as' bs' = some r' ∧ (c && r') = r) → (Op.equalIn (d + 1) f.type u v).run P w = .ok c w → (Op.eqFields (d + 1) xs ys (f :: fs)).run P w = .ok r w := by
      intro a b as' bs' u v c _ _ hu hv h3 h4 ⟨r', hr', hc⟩ he
      have hrest := ih qs (k + 1) as' bs' xs ys r' hqs h3 h4 hr'
      have hp1 := part_one (P := P) (w := w) ht hagg hu
      have hp2 := part_one (P := P) (w := w) ht hagg hv
      subst hc
      simp only [Op.eqFields, hon.1, ne_eq, hon.2, not_false_eq_true, if_true, Sem.run_bind, hp1, hp2, he, Result.andThen_ok]
      cases c
      · simp
      · simpa using hrest
    have inv : ∀ {a b : AV} {as' bs' : List AV}, as = a :: as' → bs = b :: bs' → ∃ u v, xs[k]? = some u ∧ ys[k]? = some v ∧ VRel e w a u ∧ VRel e w b v ∧ LRel e w as' (xs.toList.drop (k + 1)) ∧ LRel e w bs' (ys.toList.drop (k + 1)) := by
      intro a b as' bs' ha hb
      subst ha hb
      obtain ⟨u, h3, h4, h5⟩ := getD_drop h1
      obtain ⟨v, h6, h7, h8⟩ := getD_drop h2
      exact ⟨u, v, h3, h6, h4, h7, h5, h8⟩
    unfold aeqs at hr
    split at hr
    · rename_i h; cases h
    · rename_i hk
      injection hk with hk hk'
      subst hk hk'
      split at hr
      case isFalse => cases hr
      rename_i hkk
      subst hkk
      obtain ⟨r', hr', hc⟩ := Option.map_eq_some_iff.1 hr
      obtain ⟨u, v, h3, h4, h5, h6, h7, h8⟩ := inv rfl rfl
      cases h5; cases h6
      cases td <;> simp [fkOf] at htd
      exact key _ _ _ _ _ _ _ rfl rfl h3 h4 h7 h8 ⟨r', hr', hc⟩ (run_equalIn_int w d f.type _ _ _ _ ht)
    · rename_i hk
      injection hk with hk hk'
      subst hk hk'
      obtain ⟨r', hr', hc⟩ := Option.map_eq_some_iff.1 hr
      obtain ⟨u, v, h3, h4, h5, h6, h7, h8⟩ := inv rfl rfl
      cases h5; cases h6
      cases td <;> simp [fkOf] at htd
      exact key _ _ _ _ _ _ _ rfl rfl h3 h4 h7 h8 ⟨r', hr', hc⟩ (run_equalIn_bool w d f.type _ _ ht)
    · rename_i hk
      injection hk with hk hk'
      subst hk hk'
      obtain ⟨r', hr', hc⟩ := Option.map_eq_some_iff.1 hr
      obtain ⟨u, v, h3, h4, h5, h6, h7, h8⟩ := inv rfl rfl
      cases h5; cases h6
      cases td <;> simp [fkOf] at htd
      exact key _ _ _ _ _ _ _ rfl rfl h3 h4 h7 h8 ⟨r', hr', hc⟩ (by rw [run_equalIn_string w d f.type _ _ ht, toList_data, toList_data])
    · cases hr

end
end Go.Proofs.Ytooaiddfokbffaa.E
