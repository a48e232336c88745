/- The row TermLaws: whatever the input, the law answers true. Conditions: none. -/
import Derived.Test.YtooaiddfokbffaaA8
import Derived.Test.YtooaiddfokbffaaRows
import Derived.WalkKit
import Derived.ProofKit
import Derived.OpenShut
import Derived.ShutString
import Derived.ChangeOld
import Derived.Below
import Derived.SizedLaws
import Derived.Carry
/- Lifts and replacements, as laws of trees. Conditions: none. -/
set_option linter.unusedVariables false
set_option linter.unusedSimpArgs false
namespace Go.Proofs.Ytooaiddfokbffaa.E
open Go Go.Proofs

mutual
def putT (at_ : Int) (s : Tm) (deep : Int) : Tm → Tm
  | .mk f n h sn lv ks => if f = 1 ∧ n ≥ at_ + deep then (if n > at_ + deep then varTm (n - 1) else liftT 0 deep 0 s) else (bareT (.mk f n h sn lv ks)).with (putK at_ s f 0 deep ks)
def putK (at_ : Int) (s : Tm) (f : Int) (i : Nat) (deep : Int) : List Tm → List Tm
  | [] => []
  | k :: r => putT at_ s (underF f i deep) k :: putK at_ s f (i + 1) deep r
end

/-- What stands within a binder, with a number more. -/
theorem underF_add (f i d e : Int) : underF f i (d + e) = underF f i d + e := by
  unfold underF; split <;> omega
theorem underF_add' (f i d e : Int) : underF f i (d + e) = d + underF f i e := by
  unfold underF; split <;> omega

theorem lift_node (fr by_ deep : Int) {f n : Int} {h : Bool} {s : ByteArray} {lv : List Lv} {ks : List Tm} (hn : ¬ (f = 1 ∧ n ≥ fr + deep)) : liftT fr by_ deep (.mk f n h s lv ks) = (bareT (.mk f n h s lv ks)).with (liftK fr by_ f 0 deep ks) := by
  rw [liftT, if_neg hn]
theorem lift_var (fr by_ deep : Int) {f n : Int} {h : Bool} {s : ByteArray} {lv : List Lv} {ks : List Tm} (hn : f = 1 ∧ n ≥ fr + deep) : liftT fr by_ deep (.mk f n h s lv ks) = varTm (n + by_) := by
  rw [liftT, if_pos hn]
theorem put_node (at_ : Int) (u : Tm) (deep : Int) {f n : Int} {h : Bool} {s : ByteArray} {lv : List Lv} {ks : List Tm} (hn : ¬ (f = 1 ∧ n ≥ at_ + deep)) : putT at_ u deep (.mk f n h s lv ks) = (bareT (.mk f n h s lv ks)).with (putK at_ u f 0 deep ks) := by
  rw [putT, if_neg hn]
theorem put_gt (at_ : Int) (u : Tm) (deep : Int) {f n : Int} {h : Bool} {s : ByteArray} {lv : List Lv} {ks : List Tm} (hf : f = 1) (hn : n > at_ + deep) : putT at_ u deep (.mk f n h s lv ks) = varTm (n - 1) := by
  rw [putT, if_pos ⟨hf, by omega⟩, if_pos hn]
theorem put_eq (at_ : Int) (u : Tm) (deep : Int) {f n : Int} {h : Bool} {s : ByteArray} {lv : List Lv} {ks : List Tm} (hf : f = 1) (hn : n = at_ + deep) : putT at_ u deep (.mk f n h s lv ks) = liftT 0 deep 0 u := by
  rw [putT, if_pos ⟨hf, by omega⟩, if_neg (by omega)]

/-- A node whose fields are told. -/
theorem bare_mk (f n : Int) (h : Bool) (s : ByteArray) (lv : List Lv) (ks ks' : List Tm) : (bareT (.mk f n h s lv ks)).with ks' = .mk f (if f = 1 ∨ f = 11 then n else 0) (if f = 3 ∨ f = 4 ∨ f = 5 then h else false) (if f = 10 then s else zeroS) (if f = 2 ∨ f = 10 then lv else []) ks' := rfl
theorem bare_bare (f n : Int) (h : Bool) (s : ByteArray) (lv : List Lv) (ks ks' ks'' : List Tm) :
    (bareT (.mk f (if f = 1 ∨ f = 11 then n else 0) (if f = 3 ∨ f = 4 ∨ f = 5 then h else false) (if f = 10 then s else zeroS) (if f = 2 ∨ f = 10 then lv else []) ks')).with ks'' = (bareT (.mk f n h s lv ks)).with ks'' := by
  rw [bare_mk, bare_mk]
  congr 1 <;> split <;> rfl

theorem node_var {f n c : Int} (h : ¬ (f = 1 ∧ n ≥ c)) : ¬ (f = 1 ∧ (if f = 1 ∨ f = 11 then n else 0) ≥ c) := by
  rintro ⟨h1, h2⟩
  rw [if_pos (.inl h1)] at h2
  exact h ⟨h1, h2⟩

theorem clean_bare (f n : Int) (h : Bool) (s : ByteArray) (lv : List Lv) (ks ks' : List Tm) : cleanT ((bareT (.mk f n h s lv ks)).with ks') = (bareT (.mk f n h s lv ks)).with (cleanK ks') := by
  rw [bare_mk, cleanT, bare_bare]

mutual
theorem clean_lift (fr by_ deep : Int) : ∀ t, cleanT (liftT fr by_ deep t) = liftT fr by_ deep t
  | .mk f n h s lv ks => by
    by_cases hn : f = 1 ∧ n ≥ fr + deep
    · rw [lift_var _ _ _ hn]; rfl
    · rw [lift_node _ _ _ hn, clean_bare, clean_liftK]
theorem clean_liftK (fr by_ f deep : Int) : ∀ (ks : List Tm) (i : Nat), cleanK (liftK fr by_ f i deep ks) = liftK fr by_ f i deep ks
  | [], _ => rfl
  | k :: r, i => by simp only [liftK, cleanK, clean_lift fr by_ _ k, clean_liftK fr by_ f deep r (i + 1)]
end

mutual
/-- Lifts, one behind the other. -/
theorem lift_lift (d k : Int) (hd : 0 ≤ d) (hk : 0 ≤ k) (j e : Int) (he1 : j ≤ e) (he2 : e ≤ k + j) : ∀ u, liftT 0 d e (liftT 0 k j u) = liftT 0 (d + k) j u
  | .mk f n h s lv ks => by
    by_cases hn : f = 1 ∧ n ≥ 0 + j
    · rw [lift_var _ _ _ hn, lift_var _ _ _ hn, varTm, lift_var _ _ _ ⟨rfl, by omega⟩]
      congr 1; omega
    · rw [lift_node _ _ _ hn, lift_node _ _ _ hn, bare_mk, lift_node, bare_bare (ks := ks), lift_liftK d k hd hk f j e he1 he2 ks 0]
      exact node_var (by rintro ⟨h1, h2⟩; exact hn ⟨h1, by omega⟩)
theorem lift_liftK (d k : Int) (hd : 0 ≤ d) (hk : 0 ≤ k) (f j e : Int) (he1 : j ≤ e) (he2 : e ≤ k + j) : ∀ (ks : List Tm) (i : Nat), liftK 0 d f i e (liftK 0 k f i j ks) = liftK 0 (d + k) f i j ks
  | [], _ => rfl
  | q :: r, i => by
    simp only [liftK]
    have h1 : underF f i j ≤ underF f i e := by unfold underF; split <;> omega
    have h2 : underF f i e ≤ k + underF f i j := by unfold underF; split <;> omega
    rw [lift_lift d k hd hk _ _ h1 h2 q, lift_liftK d k hd hk f j e he1 he2 r (i + 1)]
end

theorem put_varTm (at_ : Int) (u : Tm) (deep n : Int) (hn : n ≥ at_ + deep) : putT at_ u deep (varTm n) = if n > at_ + deep then varTm (n - 1) else liftT 0 deep 0 u := by
  rw [varTm, putT, if_pos ⟨rfl, hn⟩]
theorem lift_varTm (fr by_ deep n : Int) (hn : n ≥ fr + deep) : liftT fr by_ deep (varTm n) = varTm (n + by_) := lift_var _ _ _ ⟨rfl, hn⟩

mutual
/-- What is lifted is not touched by a replacement at the place where it was lifted. -/
theorem put_lift (x : Tm) (d : Int) (hd : 0 ≤ d) (j : Int) : ∀ t, putT 0 x (d + j) (liftT 0 (d + 1) j t) = liftT 0 d j t
  | .mk f n h sn lv ks => by
    by_cases hn : f = 1 ∧ n ≥ 0 + j
    · rw [lift_var _ _ _ hn, lift_var _ _ _ hn, put_varTm _ _ _ _ (by omega), if_pos (by omega)]
      congr 1; omega
    · rw [lift_node _ _ _ hn, lift_node _ _ _ hn, bare_mk, put_node, bare_bare (ks := ks), put_liftK x d hd j f ks 0]
      exact node_var (by rintro ⟨h1, h2⟩; exact hn ⟨h1, by omega⟩)
theorem put_liftK (x : Tm) (d : Int) (hd : 0 ≤ d) (j f : Int) : ∀ (ks : List Tm) (i : Nat), putK 0 x f i (d + j) (liftK 0 (d + 1) f i j ks) = liftK 0 d f i j ks
  | [], _ => rfl
  | k :: r, i => by
    simp only [liftK, putK]
    rw [underF_add', put_lift x d hd _ k, put_liftK x d hd j f r (i + 1)]
end

mutual
/-- A replacement beneath a lift. -/
theorem put_comm (u : Tm) (d : Int) (hd : 0 ≤ d) (k : Int) (hk : 0 ≤ k) : ∀ s, putT 0 u (d + k) (liftT 0 d k s) = liftT 0 d k (putT 0 u k s)
  | .mk f n h sn lv ks => by
    by_cases hn : f = 1 ∧ n ≥ 0 + k
    · obtain ⟨rfl, hn2⟩ := hn
      rw [lift_var _ _ _ ⟨rfl, hn2⟩, put_varTm _ _ _ _ (by omega)]
      by_cases hg : n > 0 + k
      · rw [if_pos (by omega), put_gt _ _ _ rfl hg, lift_varTm _ _ _ _ (by omega)]
        congr 1; omega
      · rw [if_neg (by omega), put_eq _ _ _ rfl (by omega), lift_lift d k hd hk 0 k hk (by omega)]
    · rw [lift_node _ _ _ hn, put_node _ _ _ hn, bare_mk, bare_mk, put_node, lift_node, bare_bare (ks := ks), bare_bare (ks := ks), put_commK u d hd k hk f ks 0]
      · exact node_var hn
      · exact node_var (by rintro ⟨h1, h2⟩; exact hn ⟨h1, by omega⟩)
theorem put_commK (u : Tm) (d : Int) (hd : 0 ≤ d) (k : Int) (hk : 0 ≤ k) (f : Int) : ∀ (ks : List Tm) (i : Nat), putK 0 u f i (d + k) (liftK 0 d f i k ks) = liftK 0 d f i k (putK 0 u f i k ks)
  | [], _ => rfl
  | q :: r, i => by
    simp only [liftK, putK]
    have h1 : 0 ≤ underF f i k := by unfold underF; split <;> omega
    rw [underF_add', put_comm u d hd _ h1 q, put_commK u d hd k hk f r (i + 1)]
end

mutual
/-- Two replacements, in either order. -/
theorem put_put (s u : Tm) (d : Int) (hd : 0 ≤ d) : ∀ t, putT 0 u d (putT 0 s d t) = putT 0 (putT 0 u 0 s) d (putT 1 (liftT 0 1 0 u) d t)
  | .mk f n h sn lv ks => by
    by_cases hn : f = 1 ∧ n ≥ 0 + d
    · obtain ⟨rfl, hn2⟩ := hn
      by_cases h0 : n = 0 + d
      · rw [put_eq _ _ _ rfl h0]
        have hB := put_comm u d hd 0 (by omega) s
        rw [Int.add_zero] at hB
        rw [hB, put_node 1 _ _ (by omega), bare_mk, put_eq _ _ _ rfl (by rw [if_pos (.inl rfl)]; exact h0)]
      · rw [put_gt _ _ _ rfl (by omega)]
        by_cases h1 : n = 1 + d
        · rw [put_varTm _ _ _ _ (by omega), if_neg (by omega), put_eq 1 _ _ rfl h1, lift_lift d 1 hd (by omega) 0 0 (by omega) (by omega)]
          have hP := put_lift (putT 0 u 0 s) d hd 0 u
          rw [Int.add_zero] at hP
          rw [hP]
        · rw [put_varTm _ _ _ _ (by omega), if_pos (by omega), put_gt 1 _ _ rfl (by omega), put_varTm _ _ _ _ (by omega), if_pos (by omega)]
    · have hn1 : ¬ (f = 1 ∧ n ≥ 1 + d) := by rintro ⟨h1, h2⟩; exact hn ⟨h1, by omega⟩
      rw [put_node _ _ _ hn, put_node _ _ _ hn1, bare_mk, bare_mk, put_node, put_node, bare_bare (ks := ks), bare_bare (ks := ks), put_putK s u d hd f ks 0]
      · exact node_var hn
      · exact node_var hn
theorem put_putK (s u : Tm) (d : Int) (hd : 0 ≤ d) (f : Int) : ∀ (ks : List Tm) (i : Nat), putK 0 u f i d (putK 0 s f i d ks) = putK 0 (putT 0 u 0 s) f i d (putK 1 (liftT 0 1 0 u) f i d ks)
  | [], _ => rfl
  | q :: r, i => by
    simp only [putK]
    have h1 : 0 ≤ underF f i d := by unfold underF; split <;> omega
    rw [put_put s u _ h1 q, put_putK s u d hd f r (i + 1)]
end

/-- A variable has no parts. -/
def Vk (t : Tm) : Prop := t.form = 1 → t.kids = []
mutual
theorem lift_zero (j : Int) : ∀ t, Tm.All Vk t → liftT 0 0 j t = cleanT t
  | .mk f n h s lv ks, ha => by
    simp only [Tm.All, Vk, Tm.form, Tm.kids] at ha
    by_cases hn : f = 1 ∧ n ≥ 0 + j
    · obtain ⟨rfl, hn2⟩ := hn
      obtain ⟨ha, _⟩ := ha
      obtain rfl := ha rfl
      rw [lift_var _ _ _ ⟨rfl, hn2⟩, Int.add_zero, cleanT, bare_mk]; rfl
    · rw [lift_node _ _ _ hn, cleanT, lift_zeroK j f ks 0 ha.2]
theorem lift_zeroK (j f : Int) : ∀ (ks : List Tm) (i : Nat), Tm.AllL Vk ks → liftK 0 0 f i j ks = cleanK ks
  | [], _, _ => rfl
  | k :: r, i, ha => by
    simp only [Tm.AllL] at ha
    simp only [liftK, cleanK]
    rw [lift_zero _ k ha.1, lift_zeroK j f r (i + 1) ha.2]
end

mutual
theorem same_clean : ∀ t, sameT (cleanT t) t = true
  | .mk f n h s lv ks => by
    rw [cleanT, bare_mk, sameT]
    simp only [Tm.form, Tm.kids, Tm.n, Tm.hid, Tm.name, Tm.lv]
    rw [if_pos ⟨trivial, cleanK_len ks⟩, same_cleanK ks, Bool.and_true]
    unfold fieldsEq
    repeat' split
    all_goals first
      | (exfalso; omega)
      | rfl
      | simp only [beq_self_eq_true, lvsEq_self, sameS_self, Bool.and_self]
theorem same_cleanK : ∀ ks, sameK (cleanK ks) ks = true
  | [] => rfl
  | k :: r => by simp only [cleanK, sameK, same_clean k, same_cleanK r, Bool.and_self]
end

/-- Sizes and heights of what is not too long, nor too high. -/
theorem fit_sz : ∀ t, ∀ c high, (fitT c high t).1 = true → (fitT c high t).2 = c + szT t ∧ high + htT t ≤ 501 ∧ (fitT c high t).2 ≤ 20000 := by
  refine Tm.rule fun f n hd s lv ks ih c high h => ?_
  rw [fitT] at h ⊢
  by_cases hc : c + 1 > 20000 ∨ high > 500
  · rw [if_pos hc] at h; simp at h
  rw [if_neg hc] at h ⊢
  have key : ∀ ks', (∀ k ∈ ks', k ∈ ks) → ∀ c high, c ≤ 20000 → high ≤ 501 → (fitK c high ks').1 = true → (fitK c high ks').2 = c + szK ks' ∧ high + htK ks' ≤ 501 ∧ (fitK c high ks').2 ≤ 20000 := by
    intro ks'
    induction ks' with
    | nil => intro _ c high h1 h2 h; simp only [fitK, szK, htK]; omega
    | cons k r ih' =>
      intro hm c high h1 h2 h
      simp only [fitK] at h ⊢
      cases hk : (fitT c high k).1 with
      | false => rw [hk] at h; simp at h
      | true =>
        rw [hk] at h
        simp only [if_true] at h ⊢
        obtain ⟨a1, a2, a3⟩ := ih k (hm k (List.mem_cons_self ..)) c high hk
        obtain ⟨b1, b2, b3⟩ := ih' (fun k hk => hm k (List.mem_cons_of_mem _ hk)) _ high a3 h2 h
        simp only [szK, htK]
        omega
  obtain ⟨a1, a2, a3⟩ := key ks (fun _ h => h) (c + 1) (high + 1) (by omega) (by omega) h
  simp only [szT, htT]
  omega
theorem check_sz {r : Lv → Bool} {t : Tm} (h : checkF r t = 0) : szT t ≤ 20000 ∧ htT t ≤ 500 := by
  obtain ⟨a1, a2, a3⟩ := fit_sz t 0 1 (check_form h).1
  omega

/-! ### What the code's Map makes of a replacement -/
def putD (at_ : Int) (s : Tm) : MD := fun t deep m c =>
  if ¬ t.form = 1 ∨ t.n < at_ + deep then (none, m, c)
  else if t.n > at_ + deep then (some (varTm (t.n - 1)), m, c)
  else (some (mapT (liftD 0 deep) 0 m c s).1, (mapT (liftD 0 deep) 0 m c s).2.1, c)

theorem putD_bound (at_ : Int) (s : Tm) (t : Tm) (deep m : Int) (c : List AV) : m - szT s ≤ (putD at_ s t deep m c).2.1 ∧ (putD at_ s t deep m c).2.1 ≤ m := by
  have hb := map_bound (D := liftD 0 deep) (W := 0) (fun t deep m c => by simp [liftD]) s 0 m c
  simp only [Int.natCast_zero, Int.zero_add, Int.mul_one] at hb
  unfold putD
  split
  · simp only; omega
  split
  · simp only; omega
  · exact hb
theorem putD_c (at_ : Int) (s : Tm) (t : Tm) (deep m : Int) (c : List AV) : (putD at_ s t deep m c).2.2 = c := by
  unfold putD
  split
  · rfl
  split <;> rfl

theorem lift_neg (fr by_ : Int) : ∀ t, ∀ deep m c, 0 ≤ (mapT (liftD fr by_) deep m c t).2.1 → (mapT (liftD fr by_) deep m c t).1 = liftT fr by_ deep t := by
  refine Tm.rule fun f n hd s lv ks ih deep m c hm => ?_
  rw [mapT] at hm ⊢
  by_cases h0 : m - 1 < 0
  · rw [if_pos h0] at hm; simp only at hm; omega
  rw [if_neg h0] at hm ⊢
  rw [liftT]
  by_cases hf : f = 1 ∧ n ≥ fr + deep
  · have hD : liftD fr by_ (.mk f n hd s lv ks) deep (m - 1) c = (some (varTm (n + by_)), m - 1, c) := by
      simp only [liftD]; rw [if_pos (by exact hf)]; rfl
    rw [hD, if_pos hf]
  · have hD : liftD fr by_ (.mk f n hd s lv ks) deep (m - 1) c = (none, m - 1, c) := by
      simp only [liftD]; rw [if_neg (by exact hf)]
    rw [hD] at hm
    rw [hD, if_neg hf]
    simp only at hm ⊢
    have hle : ∀ t deep m c, (mapT (liftD fr by_) deep m c t).2.1 ≤ m := fun t deep m c => (map_bound (D := liftD fr by_) (W := 0) (fun t deep m c => by simp [liftD]) t deep m c).2
    have key : ∀ ks', (∀ k ∈ ks', k ∈ ks) → ∀ (i : Nat) m c, (mapK (liftD fr by_) f i deep m c ks').2.1 ≤ m ∧ (0 ≤ (mapK (liftD fr by_) f i deep m c ks').2.1 → (mapK (liftD fr by_) f i deep m c ks').1 = liftK fr by_ f i deep ks') := by
      intro ks'
      induction ks' with
      | nil => intro _ i m c; simp [mapK, liftK]
      | cons k r ih' =>
        intro hmem i m c
        simp only [mapK, liftK]
        obtain ⟨p1, p2⟩ := ih' (fun k hk => hmem k (List.mem_cons_of_mem _ hk)) (i + 1) (mapT (liftD fr by_) (underF f i deep) m c k).2.1 (mapT (liftD fr by_) (underF f i deep) m c k).2.2
        have := hle k (underF f i deep) m c
        refine ⟨by omega, fun h => ?_⟩
        rw [p2 h, ih k (hmem k (List.mem_cons_self ..)) _ m c (by omega)]
    rw [(key ks (fun _ h => h) 0 (m - 1) c).2 hm]

theorem put_neg (at_ : Int) (s : Tm) : ∀ t, ∀ deep m c, 0 ≤ (mapT (putD at_ s) deep m c t).2.1 → (mapT (putD at_ s) deep m c t).1 = putT at_ s deep t := by
  refine Tm.rule fun f n hd sn lv ks ih deep m c hm => ?_
  rw [mapT] at hm ⊢
  by_cases h0 : m - 1 < 0
  · rw [if_pos h0] at hm; simp only at hm; omega
  rw [if_neg h0] at hm ⊢
  rw [putT]
  by_cases hf : f = 1 ∧ n ≥ at_ + deep
  · rw [if_pos hf]
    by_cases hg : n > at_ + deep
    · have hD : putD at_ s (.mk f n hd sn lv ks) deep (m - 1) c = (some (varTm (n - 1)), m - 1, c) := by
        exact (if_neg (fun h => h.elim (fun h => h hf.1) fun h => by have : n < at_ + deep := h; omega)).trans (if_pos hg)
      rw [hD, if_pos hg]
    · have hD : putD at_ s (.mk f n hd sn lv ks) deep (m - 1) c = (some (mapT (liftD 0 deep) 0 (m - 1) c s).1, (mapT (liftD 0 deep) 0 (m - 1) c s).2.1, c) := by
        exact (if_neg (fun h => h.elim (fun h => h hf.1) fun h => by have : n < at_ + deep := h; omega)).trans (if_neg hg)
      rw [hD] at hm
      rw [hD, if_neg hg]
      exact lift_neg 0 deep s 0 (m - 1) c hm
  · have hD : putD at_ s (.mk f n hd sn lv ks) deep (m - 1) c = (none, m - 1, c) := by
      exact if_pos (show ¬ f = 1 ∨ n < at_ + deep by omega)
    rw [hD] at hm
    rw [hD, if_neg hf]
    simp only at hm ⊢
    have hle : ∀ t deep m c, (mapT (putD at_ s) deep m c t).2.1 ≤ m := fun t deep m c => (map_bound (D := putD at_ s) (putD_bound at_ s) t deep m c).2
    have key : ∀ ks', (∀ k ∈ ks', k ∈ ks) → ∀ (i : Nat) m c, (mapK (putD at_ s) f i deep m c ks').2.1 ≤ m ∧ (0 ≤ (mapK (putD at_ s) f i deep m c ks').2.1 → (mapK (putD at_ s) f i deep m c ks').1 = putK at_ s f i deep ks') := by
      intro ks'
      induction ks' with
      | nil => intro _ i m c; simp [mapK, putK]
      | cons k r ih' =>
        intro hmem i m c
        simp only [mapK, putK]
        obtain ⟨p1, p2⟩ := ih' (fun k hk => hmem k (List.mem_cons_of_mem _ hk)) (i + 1) (mapT (putD at_ s) (underF f i deep) m c k).2.1 (mapT (putD at_ s) (underF f i deep) m c k).2.2
        have := hle k (underF f i deep) m c
        refine ⟨by omega, fun h => ?_⟩
        rw [p2 h, ih k (hmem k (List.mem_cons_self ..)) _ m c (by omega)]
    rw [(key ks (fun _ h => h) 0 (m - 1) c).2 hm]
end Go.Proofs.Ytooaiddfokbffaa.E

/- term.Subst, as the code does it. Conditions: none. -/
set_option linter.unusedVariables false
set_option linter.unusedSimpArgs false
namespace Go.Proofs.Ytooaiddfokbffaa.E
open Go Go.Proofs
attribute [local go_sem] s_seq s_ops s_draw s_block s_skip s_ret s_exit i_nil i_cons i_run i_runG s_condQ c_true c_false aop ev_t ev_c updO_at updO_no upd_at t_normal t_ret t_exit b_normal b_ret b_exit a_some ac_v ac_agg ac_ptr ac_slc ac_ro ac_rop ac_fn new_next set_next argTm_zero argTm_succ argTm_nil ab_bool ab_uv beq_self_eq_true Option.some_beq_some Bool.not_not beq_iff_eq decide_true decide_false Bool.not_true Bool.not_false afld aload astore apack alen_str alen_ro alen_slc alen_nil new_get set_get ite_true ite_false Option.map_some Option.bind_some ibin isShift Nat.add_zero Nat.zero_add List.length_cons List.length_nil List.drop_zero List.drop_succ_cons List.take_succ_cons List.take_zero if_true if_false setL List.set_cons_zero List.set_cons_succ List.all_cons List.all_nil one_int one_bool one_str one_nil one_ptr one_slc one_ro one_rop one_fn Bool.and_self Bool.and_true true_and and_true and_self Bool.false_eq_true post_ret post_normal resAll resOne packR Option.some.injEq exists_eq_left' List.map_cons List.map_nil List.nil_append List.append_nil List.cons_append d_nil d_cons k_nil k_cons g_op g_same g_new avBlock forall_eq' List.getElem?_cons_succ List.getElem?_cons_zero List.getElem?_nil okind gOk bne false_imp_iff forall_const imp_self implies_true true_imp_iff i_callG

theorem all_true : ∀ t, Tm.All (fun _ => True) t := by
  refine Tm.rule fun f n hd s lv ks ih => ?_
  simp only [Tm.All]
  refine ⟨trivial, ?_⟩
  have key : ∀ ks', (∀ k ∈ ks', k ∈ ks) → Tm.AllL (fun _ => True) ks' := by
    intro ks'
    induction ks' with
    | nil => intro _; trivial
    | cons k r ih' => intro hm; exact ⟨ih k (hm k (List.mem_cons_self ..)), ih' fun k hk => hm k (List.mem_cons_of_mem _ hk)⟩
  exact key ks fun _ h => h

theorem lift_c (fr by_ : Int) (t : Tm) (deep m : Int) (c : List AV) : (mapT (liftD fr by_) deep m c t).2.2 = c :=
  map_inv (D := liftD fr by_) (Pt := fun _ => True) (Inv := fun x => x = c) (fun t deep m c' _ h => by simpa [liftD] using h) t (all_true t) deep m c rfl

set_option maxRecDepth 100000 in
theorem putD_ok (at_ : Int) (hat : 0 ≤ at_ ∧ at_ ≤ 1099511627776) (s : Tm) (hs : Tm.All TmB s) (hsv : Tm.All Vn s) (hsz : szT s ≤ 1000000) (hsh : htT s ≤ 1000000) {sl sk : AV} (hS : TmP s [aint s.form, aint s.n, abl s.hid, .v (.string s.name), sl, sk])
    {bl bb : Nat} (hne : bl ≠ bb) (t : Tm) (hv : Vn t) (cells : List AV) (deep m : Int) (c : List AV) (hT : TmP t cells) (hd : 0 ≤ deep ∧ deep ≤ 4611686018427387904) (hm : 0 ≤ m ∧ m ≤ 2305843009213693952) (hc : ∀ x ∈ c, Old 0 x) (G : AHeap)
    (hgl : G.get bl = some (.cells [aint m])) (hgb : G.get bb = some (.cells c)) (hl : bl < G.next) (hb : bb < G.next) :
    SCall Try.prog 143 [.agg [aint at_, aint s.form, aint s.n, abl s.hid, .v (.string s.name), sl, sk, .ptr bl 0], .agg cells, aint deep] G fun x H' => (∃ xc, x = .tup [.agg xc, abl (putD at_ s t deep m c).1.isSome] ∧ TmP ((putD at_ s t deep m c).1.getD zeroTm) xc) ∧ H' = put2 bl bb (putD at_ s t deep m c).2.1 (putD at_ s t deep m c).2.2 G := by
  have keep : ∀ {u : Tm} {xc : List AV} {b : Bool} {H' : AHeap}, TmP u xc → FrzN G.next H' (.tup [.agg xc, abl b]) (.tup [.agg xc, abl b]) := fun h => .keep _ (.tup _ fun y hy => by
    simp at hy
    rcases hy with rfl | rfl
    · exact .agg _ fun z hz => (h.2 z hz).mono (Nat.zero_le _)
    · exact .v _)
  have hcc : ∀ x ∈ (putD at_ s t deep m c).2.2, Old 0 x := by rw [putD_c]; exact hc
  refine SCall.frzAt2 bl bb _ _ hl hb hcc (G := fun x => ∃ xc, x = .tup [.agg xc, abl (putD at_ s t deep m c).1.isSome] ∧ TmP ((putD at_ s t deep m c).1.getD zeroTm) xc)
    (R := fun x H' => Ext (put2 bl bb (putD at_ s t deep m c).2.1 (putD at_ s t deep m c).2.2 G) H' ∧ ∃ xc, x = .tup [.agg xc, abl (putD at_ s t deep m c).1.isSome] ∧ TmP ((putD at_ s t deep m c).1.getD zeroTm) xc)
    (SCall.intro mixed cf143 ?_) (fun _ _ x H' ⟨h1, xc, h2, h3⟩ _ => ⟨h1, x, by subst h2; exact keep h3, xc, h2, h3⟩)
  obtain ⟨lx, kx, rfl, p1, p2, p3, p4, p5⟩ := hT.six
  obtain ⟨lx', kx', hS6, q1, q2, q3, q4, q5⟩ := hS.six
  injection hS6 with _ hS6
  injection hS6 with _ hS6
  injection hS6 with _ hS6
  injection hS6 with _ hS6
  injection hS6 with r1 hS6
  injection hS6 with r2 _
  subst r1 r2
  have e1 : ¬ G.next = G.next + 1 := by omega
  have e2 : ¬ G.next + 1 = G.next := by omega
  have e3 : ¬ G.next = G.next + 1 + 1 := by omega
  have e4 : ¬ G.next + 1 = G.next + 1 + 1 := by omega
  have e5 : ¬ G.next + 1 + 1 = G.next := by omega
  have e6 : ¬ G.next + 1 + 1 = G.next + 1 := by omega
  have hE0 : ∀ o1 o2 o3, Ext G (((G.new o1).new o2).new o3) := fun o1 o2 o3 => (((Ext.refl G).new _).new _).new _
  have hself : put2 bl bb m c G = G := put2_self hgl hgb
  have w1 : IntKind.i64.wrap (at_ + deep) = at_ + deep := i64_ok _ (by omega)
  by_cases hf : t.form = 1
  case neg =>
    have hD : putD at_ s t deep m c = (none, m, c) := if_pos (.inl hf)
    rw [hD]
    simp only [hself]
    simp -implicitDefEqProofs only [c143, go_sem, Nat.reduceEqDiff, Nat.reduceAdd, Nat.reduceLeDiff, ↓reduceIte, reduceCtorEq, Int.reduceBEq, Int.reduceBNe, Int.reduceLT, Int.reduceLE, Int.reduceGT, Int.reduceGE, Int.reduceNeg, Int.reduceAdd, Int.reduceSub, Nat.reduceMul, Nat.reduceLT, Int.reduceToNat, p1, p2, p3, p4, q1, q2, q3, q4, afill, e1, e2, e3, e4, e5, e6, bne' hf]
    exact ⟨(hE0 _ _ _).set (by omega) _, _, rfl, tmp_zero⟩
  have hn := hv hf
  have hfb : (t.form == 1) = true := by rw [hf]; rfl
  by_cases hlt : t.n < at_ + deep
  · have hD : putD at_ s t deep m c = (none, m, c) := if_pos (.inr hlt)
    rw [hD]
    simp only [hself]
    simp -implicitDefEqProofs only [c143, go_sem, Nat.reduceEqDiff, Nat.reduceAdd, Nat.reduceLeDiff, ↓reduceIte, reduceCtorEq, Int.reduceBEq, Int.reduceBNe, Int.reduceLT, Int.reduceLE, Int.reduceGT, Int.reduceGE, Int.reduceNeg, Int.reduceAdd, Int.reduceSub, Nat.reduceMul, Nat.reduceLT, Int.reduceToNat, p1, p2, p3, p4, q1, q2, q3, q4, afill, e1, e2, e3, e4, e5, e6, hfb, w1, hlt]
    exact ⟨(hE0 _ _ _).set (by omega) _, _, rfl, tmp_zero⟩
  by_cases hgt : t.n > at_ + deep
  · have hD : putD at_ s t deep m c = (some (varTm (t.n - 1)), m, c) := (if_neg (fun h => h.elim (fun h => h hf) hlt)).trans (if_pos hgt)
    have w2 : IntKind.i64.wrap (t.n - 1) = t.n - 1 := i64_ok _ (by omega)
    rw [hD]
    simp only [hself]
    simp -implicitDefEqProofs only [c143, go_sem, Nat.reduceEqDiff, Nat.reduceAdd, Nat.reduceLeDiff, ↓reduceIte, reduceCtorEq, Int.reduceBEq, Int.reduceBNe, Int.reduceLT, Int.reduceLE, Int.reduceGT, Int.reduceGE, Int.reduceNeg, Int.reduceAdd, Int.reduceSub, Nat.reduceMul, Nat.reduceLT, Int.reduceToNat, p1, p2, p3, p4, q1, q2, q3, q4, afill, e1, e2, e3, e4, e5, e6, hfb, w1, hlt, hgt, w2]
    refine i_callA (fs := []) (cs := []) ?_ ?_ (var_ok (t.n - 1) _) ?_
    · rfl
    · simp -implicitDefEqProofs only [go_sem, Nat.reduceEqDiff, Nat.reduceAdd, Nat.reduceLeDiff, ↓reduceIte, reduceCtorEq, Int.reduceBEq, Int.reduceBNe, Int.reduceLT, Int.reduceLE, Int.reduceGT, Int.reduceGE, Int.reduceNeg, Int.reduceAdd, Int.reduceSub, Nat.reduceMul, Nat.reduceLT, Int.reduceToNat]
    rintro x H3 ⟨rfl, rfl⟩
    simp -implicitDefEqProofs only [go_sem, Nat.reduceEqDiff, Nat.reduceAdd, Nat.reduceLeDiff, ↓reduceIte, reduceCtorEq, Int.reduceBEq, Int.reduceBNe, Int.reduceLT, Int.reduceLE, Int.reduceGT, Int.reduceGE, Int.reduceNeg, Int.reduceAdd, Int.reduceSub, Nat.reduceMul, Nat.reduceLT, Int.reduceToNat, e1, e2, e3, e4, e5, e6]
    exact ⟨(hE0 _ _ _).set (by omega) _, _, rfl, tmp_var _⟩
  · have hD : putD at_ s t deep m c = (some (mapT (liftD 0 deep) 0 m c s).1, (mapT (liftD 0 deep) 0 m c s).2.1, c) := (if_neg (fun h => h.elim (fun h => h hf) hlt)).trans (if_neg hgt)
    rw [hD]
    simp -implicitDefEqProofs only [c143, go_sem, Nat.reduceEqDiff, Nat.reduceAdd, Nat.reduceLeDiff, ↓reduceIte, reduceCtorEq, Int.reduceBEq, Int.reduceBNe, Int.reduceLT, Int.reduceLE, Int.reduceGT, Int.reduceGE, Int.reduceNeg, Int.reduceAdd, Int.reduceSub, Nat.reduceMul, Nat.reduceLT, Int.reduceToNat, p1, p2, p3, p4, q1, q2, q3, q4, afill, e1, e2, e3, e4, e5, e6, hfb, w1, hlt, hgt]
    have hm' := map_ok (fid := 126) (fs := [.agg [aint 0, aint deep]]) (cap := []) (bl := bl) (bb := bb) hne (D := liftD 0 deep) (Pt := fun t => TmB t ∧ Vn t) (Inv := fun c => ∀ x ∈ c, Old 0 x) (W := 0) (fun t h => h.1) (fun t deep m c => by simp [liftD]) (fun t deep m c _ h => h) (fun c h => h)
      (fun t cells deep' m c G hP hT h3 h4 _ _ _ _ h1 h2 _ _ => (liftD_ok 0 deep (by omega) (by omega) t hP.2 cells deep' m c ⟨h3, h4⟩ hT G).mono fun x H' ⟨hx, hH⟩ => ⟨hx, by rw [hH]; exact (put2_self h1 h2).symm⟩)
      s (all_and s hs hsv) _ hS 0 m c (by omega) (by omega) (by omega) (by omega) hc
      (((G.new (.cells [aint at_, aint s.form, aint s.n, abl s.hid, .v (.string s.name), sl, sk, .ptr bl 0])).new (.cells [aint t.form, aint t.n, abl t.hid, .v (.string t.name), lx, kx])).new (.cells z6))
      (by rw [(hE0 _ _ _).2 bl hl]; exact hgl) (by rw [(hE0 _ _ _).2 bb hb]; exact hgb) (Nat.lt_of_lt_of_le hl (hE0 (.cells []) (.cells []) (.cells [])).1) (Nat.lt_of_lt_of_le hb (hE0 (.cells []) (.cells []) (.cells [])).1)
    rw [lift_c] at hm'
    refine i_callA (fs := []) (cs := []) (fid := 123) ?_ ?_ hm' ?_
    · rfl
    · simp -implicitDefEqProofs only [go_sem, Nat.reduceEqDiff, Nat.reduceAdd, Nat.reduceLeDiff, ↓reduceIte, reduceCtorEq, Int.reduceBEq, Int.reduceBNe, Int.reduceLT, Int.reduceLE, Int.reduceGT, Int.reduceGE, Int.reduceNeg, Int.reduceAdd, Int.reduceSub, Nat.reduceMul, Nat.reduceLT, Int.reduceToNat]
    rintro x H3 ⟨⟨xc, rfl, hxc⟩, rfl⟩
    obtain ⟨ax, bx, hx6, k1, k2, k3, k4, _⟩ := hxc.six
    have f1 : ¬ G.next = bl := by omega
    have f2 : ¬ G.next + 1 = bl := by omega
    have f3 : ¬ G.next + 1 + 1 = bl := by omega
    have f4 : ¬ G.next = bb := by omega
    have f5 : ¬ G.next + 1 = bb := by omega
    have f6 : ¬ G.next + 1 + 1 = bb := by omega
    have hE1 : ∀ o1 o2 o3 m', Ext (put2 bl bb m' c G) (put2 bl bb m' c (((G.new o1).new o2).new o3)) := fun o1 o2 o3 m' => by
      have h2 : Ext (put2 bl bb m c G) (((G.new o1).new o2).new o3) := Ext.self2 hgl hgb (hE0 _ _ _)
      have h3 := h2.put2 (m' := m') (c' := c)
      exact h3
    subst hx6
    simp -implicitDefEqProofs only [go_sem, Nat.reduceEqDiff, Nat.reduceAdd, Nat.reduceLeDiff, ↓reduceIte, reduceCtorEq, Int.reduceBEq, Int.reduceBNe, Int.reduceLT, Int.reduceLE, Int.reduceGT, Int.reduceGE, Int.reduceNeg, Int.reduceAdd, Int.reduceSub, Nat.reduceMul, Nat.reduceLT, Int.reduceToNat, put2_get, put2_next, f1, f2, f3, f4, f5, f6, e1, e2, e3, e4, e5, e6, k1, k2, k3, k4]
    exact ⟨(hE1 _ _ _ _).set (by rw [put2_next]; omega) _, _, rfl, hxc⟩
end Go.Proofs.Ytooaiddfokbffaa.E

/- term.Subst, as the code does it. Conditions: none. -/
set_option linter.unusedVariables false
set_option linter.unusedSimpArgs false
namespace Go.Proofs.Ytooaiddfokbffaa.E
open Go Go.Proofs
attribute [local go_sem] s_seq s_ops s_draw s_block s_skip s_ret s_exit i_nil i_cons i_run i_runG s_condQ c_true c_false aop ev_t ev_c updO_at updO_no upd_at t_normal t_ret t_exit b_normal b_ret b_exit a_some ac_v ac_agg ac_ptr ac_slc ac_ro ac_rop ac_fn new_next set_next argTm_zero argTm_succ argTm_nil ab_bool ab_uv beq_self_eq_true Option.some_beq_some Bool.not_not beq_iff_eq decide_true decide_false Bool.not_true Bool.not_false afld aload astore apack alen_str alen_ro alen_slc alen_nil new_get set_get ite_true ite_false Option.map_some Option.bind_some ibin isShift Nat.add_zero Nat.zero_add List.length_cons List.length_nil List.drop_zero List.drop_succ_cons List.take_succ_cons List.take_zero if_true if_false setL List.set_cons_zero List.set_cons_succ List.all_cons List.all_nil one_int one_bool one_str one_nil one_ptr one_slc one_ro one_rop one_fn Bool.and_self Bool.and_true true_and and_true and_self Bool.false_eq_true post_ret post_normal resAll resOne packR Option.some.injEq exists_eq_left' List.map_cons List.map_nil List.nil_append List.append_nil List.cons_append d_nil d_cons k_nil k_cons g_op g_same g_new avBlock forall_eq' List.getElem?_cons_succ List.getElem?_cons_zero List.getElem?_nil okind gOk bne false_imp_iff forall_const imp_self implies_true true_imp_iff i_callG

theorem underF_lo {f d : Int} {i : Nat} (hd : 0 ≤ d) : 0 ≤ underF f i d ∧ underF f i d ≤ d + 1 := by
  unfold underF; split <;> omega
theorem putK_len (at_ : Int) (s : Tm) (f deep : Int) : ∀ (ks : List Tm) (i : Nat), (putK at_ s f i deep ks).length = ks.length
  | [], _ => rfl
  | k :: r, i => by simp [putK, putK_len at_ s f deep r]
theorem tmb_put (at_ : Int) (hat : 0 ≤ at_) (s : Tm) (hs : Tm.All TmB s) (hsv : Tm.All Vn s) : ∀ t, Tm.All TmB t → Tm.All Vn t → ∀ deep : Int, 0 ≤ deep → deep + htT t ≤ 4611686018427387904 → Tm.All TmB (putT at_ s deep t) := by
  refine Tm.rule fun f n hd sn lv ks ih ha hv deep h0 h1 => ?_
  simp only [Tm.All] at ha hv
  simp only [htT] at h1
  rw [putT]
  split
  · rename_i h
    have := hv.1 h.1
    simp only [Tm.n] at this
    split
    · exact ⟨tmb_var ⟨by omega, by omega⟩, trivial⟩
    · exact tmb_lift 0 deep (by omega) s hs hsv 0
  refine with_all (tmb_bare ha.1 (putK_len ..)) ?_
  have key : ∀ ks', (∀ k ∈ ks', k ∈ ks) → ∀ (i : Nat), Tm.AllL TmB (putK at_ s f i deep ks') := by
    intro ks'
    induction ks' with
    | nil => intro _ i; trivial
    | cons k r ih' =>
      intro hm i
      have hk := hm k (List.mem_cons_self ..)
      have h2 := underF_lo (f := f) (i := i) h0
      have h3 := htK_mem hk
      exact ⟨ih k hk (ha.2.mem k hk) (hv.2.mem k hk) _ h2.1 (by omega), ih' (fun k hk => hm k (List.mem_cons_of_mem _ hk)) (i + 1)⟩
  exact key ks (fun _ h => h) 0

set_option maxRecDepth 100000 in
theorem told_neg (t : Tm) (cells : List AV) (hT : TmP t cells) (left : Int) (hl : left < 0) (H : AHeap) : SCall Try.prog 75 [.agg cells, aint left] H fun x H' => TmE zeroTm 2 x ∧ H' = H := by
  have hT' := hT
  obtain ⟨lx, kx, hc6, p1, p2, p3, p4, p5, p6, p7, p8⟩ := hT.six
  subst hc6
  have main : SCall Try.prog 75 [.agg [aint t.form, aint t.n, abl t.hid, .v (.string t.name), lx, kx], aint left] H fun x H' => TmE zeroTm 2 x ∧ Ext H H' := by
    refine SCall.intro mixed cf75 ?_
    have e1 : ¬ H.next = H.next + 1 := by omega
    have e2 : ¬ H.next + 1 = H.next := by omega
    simp -implicitDefEqProofs only [c75, go_sem, Nat.reduceEqDiff, Nat.reduceAdd, Nat.reduceLeDiff, ↓reduceIte, reduceCtorEq, Int.reduceBEq, Int.reduceBNe, Int.reduceLT, Int.reduceLE, Int.reduceGT, Int.reduceGE, Int.reduceNeg, Int.reduceAdd, Int.reduceSub, Nat.reduceMul, Nat.reduceLT, Int.reduceToNat, p1, p2, p3, p4, e1, e2, hl, afill]
    exact ⟨⟨z6, rfl, tmp_zero⟩, (((Ext.refl H).new _).new _).set (by omega) _⟩
  exact main.frz fun _ _ x H' ⟨hx, hE⟩ _ => ⟨hE, x, .keep _ (hx.old _), hx⟩

/-- What raw.Subst answers, and how much work is left. -/
def PutR (at_ : Int) (t s r : Tm) (m' : Int) : Prop := (0 ≤ m' → r = putT at_ s 0 t) ∧ Rng m'

set_option maxRecDepth 100000 in
theorem rawSubst_ok (at_ : Int) (hat : 0 ≤ at_ ∧ at_ ≤ 1099511627776) (t s : Tm) (ht : Tm.All TmB t) (hs : Tm.All TmB s) (htv : Tm.All Vn t) (hsv : Tm.All Vn s) (ht1 : szT t ≤ 20000) (ht2 : htT t ≤ 500) (hs1 : szT s ≤ 20000) (hs2 : htT s ≤ 500)
    (tc sc : List AV) (hT : TmP t tc) (hS : TmP s sc) (m : Int) (hm : 0 ≤ m ∧ m ≤ 1000000) (bl : Nat) (H : AHeap) (hgl : H.get bl = some (.cells [aint m])) (hl : bl < H.next) :
    SCall Try.prog 98 [.agg tc, aint at_, .agg sc, .ptr bl 0] H fun x H' => ∃ r m' c, (x = .agg c ∧ TmP r c) ∧ PutR at_ t s r m' ∧ H' = H.set bl (.cells [aint m']) := by
  have hT' := hT
  obtain ⟨lx, kx, hc6, p1, p2, p3, p4, p5, p6, p7, p8⟩ := hT.six
  subst hc6
  have hS' := hS
  obtain ⟨sl, sk, hs6, q1, q2, q3, q4, q5, q6, q7, q8⟩ := hS.six
  subst hs6
  generalize hr : (mapT (putD at_ s) 0 m [aint t.form, aint t.n, abl t.hid, .v (.string t.name), lx, kx] t).1 = r
  generalize hm' : (mapT (putD at_ s) 0 m [aint t.form, aint t.n, abl t.hid, .v (.string t.name), lx, kx] t).2.1 = m'
  have hb := map_bound (D := putD at_ s) (putD_bound at_ s) t 0 m [aint t.form, aint t.n, abl t.hid, .v (.string t.name), lx, kx]
  rw [hm'] at hb
  have hbig : (szT t : Int) * ((szT s : Int) + 1) ≤ 20000 * 20001 := Int.mul_le_mul (by omega) (by omega) (by omega) (by omega)
  have hpr : PutR at_ t s r m' := ⟨fun h => by rw [← hr]; exact put_neg at_ s t 0 m _ (by rw [hm']; exact h), by omega, by omega⟩
  have main : SCall Try.prog 98 [.agg [aint t.form, aint t.n, abl t.hid, .v (.string t.name), lx, kx], aint at_, .agg [aint s.form, aint s.n, abl s.hid, .v (.string s.name), sl, sk], .ptr bl 0] H fun x H' => Ext (H.set bl (.cells [aint m'])) H' ∧ ∃ c, x = .agg c ∧ TmP r c := by
    refine SCall.intro mixed cf98 ?_
    have e1 : ¬ H.next = H.next + 1 := by omega
    have e2 : ¬ H.next + 1 = H.next := by omega
    have e3 : ¬ H.next = H.next + 1 + 1 := by omega
    have e4 : ¬ H.next + 1 = H.next + 1 + 1 := by omega
    have e5 : ¬ H.next + 1 + 1 = H.next := by omega
    have e6 : ¬ H.next + 1 + 1 = H.next + 1 := by omega
    have g1 : ¬ bl = H.next := by omega
    have g2 : ¬ bl = H.next + 1 := by omega
    have g3 : ¬ bl = H.next + 1 + 1 := by omega
    have g4 : ¬ H.next = bl := by omega
    have g5 : ¬ H.next + 1 = bl := by omega
    have g6 : ¬ H.next + 1 + 1 = bl := by omega
    simp -implicitDefEqProofs only [c98, go_sem, Nat.reduceEqDiff, Nat.reduceAdd, Nat.reduceLeDiff, ↓reduceIte, reduceCtorEq, Int.reduceBEq, Int.reduceBNe, Int.reduceLT, Int.reduceLE, Int.reduceGT, Int.reduceGE, Int.reduceNeg, Int.reduceAdd, Int.reduceSub, Nat.reduceMul, Nat.reduceLT, Int.reduceToNat, p1, p2, p3, p4, q1, q2, q3, q4, e1, e2, e3, e4, e5, e6, afill]
    have hm := map_ok (fid := 143) (fs := [.agg [aint at_, aint s.form, aint s.n, abl s.hid, .v (.string s.name), sl, sk, .ptr bl 0]]) (cap := []) (bl := bl) (bb := H.next) (by omega) (D := putD at_ s) (Pt := fun t => TmB t ∧ Vn t) (Inv := fun c => ∀ x ∈ c, Old 0 x) (W := szT s) (fun t h => h.1) (putD_bound at_ s) (fun t deep m c _ h => by rw [putD_c]; exact h) (fun c h => h)
      (fun t cells deep m c G hP hT h3 h4 h5 h6 _ h7 h1 h2 h8 h9 => putD_ok at_ hat s hs hsv (by omega) (by omega) hS' (by omega) t hP.2 cells deep m c hT ⟨h3, h4⟩ ⟨h5, h6⟩ h7 G h1 h2 h8 h9)
      t (all_and t ht htv) _ hT' 0 m _ (by omega) (by omega) (by omega) (by omega) hT'.2
      (((H.new (.cells [aint t.form, aint t.n, abl t.hid, .v (.string t.name), lx, kx])).new (.cells [aint s.form, aint s.n, abl s.hid, .v (.string s.name), sl, sk])).new (.cells z6))
      (by simp -implicitDefEqProofs only [go_sem, Nat.reduceEqDiff, Nat.reduceAdd, Nat.reduceLeDiff, ↓reduceIte, reduceCtorEq, Int.reduceBEq, Int.reduceBNe, Int.reduceLT, Int.reduceLE, Int.reduceGT, Int.reduceGE, Int.reduceNeg, Int.reduceAdd, Int.reduceSub, Nat.reduceMul, Nat.reduceLT, Int.reduceToNat, g1, g2, g3]; exact hgl) (by simp -implicitDefEqProofs only [go_sem, Nat.reduceEqDiff, Nat.reduceAdd, Nat.reduceLeDiff, ↓reduceIte, reduceCtorEq, Int.reduceBEq, Int.reduceBNe, Int.reduceLT, Int.reduceLE, Int.reduceGT, Int.reduceGE, Int.reduceNeg, Int.reduceAdd, Int.reduceSub, Nat.reduceMul, Nat.reduceLT, Int.reduceToNat, e1, e3]) (by simp only [new_next]; omega) (by simp only [new_next]; omega)
    rw [hr, hm'] at hm
    refine i_callA (fs := []) (cs := []) (fid := 123) ?_ ?_ hm ?_
    · rfl
    · simp -implicitDefEqProofs only [go_sem, Nat.reduceEqDiff, Nat.reduceAdd, Nat.reduceLeDiff, ↓reduceIte, reduceCtorEq, Int.reduceBEq, Int.reduceBNe, Int.reduceLT, Int.reduceLE, Int.reduceGT, Int.reduceGE, Int.reduceNeg, Int.reduceAdd, Int.reduceSub, Nat.reduceMul, Nat.reduceLT, Int.reduceToNat]
    rintro x H3 ⟨⟨xc, rfl, hxc⟩, rfl⟩
    obtain ⟨ax, bx, hx6, k1, k2, k3, k4, _⟩ := hxc.six
    subst hx6
    simp -implicitDefEqProofs only [go_sem, Nat.reduceEqDiff, Nat.reduceAdd, Nat.reduceLeDiff, ↓reduceIte, reduceCtorEq, Int.reduceBEq, Int.reduceBNe, Int.reduceLT, Int.reduceLE, Int.reduceGT, Int.reduceGE, Int.reduceNeg, Int.reduceAdd, Int.reduceSub, Nat.reduceMul, Nat.reduceLT, Int.reduceToNat, put2, e1, e2, e3, e4, e5, e6, g1, g2, g3, g4, g5, g6, k1, k2, k3, k4]
    refine ⟨((?_ : Ext _ _).set (by simp only [set_next]; omega) _).set (by simp only [set_next]; omega) _, _, rfl, hxc⟩
    have h2 : Ext (H.set bl (.cells [aint m])) (((H.new (.cells [aint t.form, aint t.n, abl t.hid, .v (.string t.name), lx, kx])).new (.cells [aint s.form, aint s.n, abl s.hid, .v (.string s.name), sl, sk])).new (.cells z6)) := Ext.selfE hgl ((((Ext.refl H).new _).new _).new _)
    exact h2.put
  refine (main.frzAt bl [aint m'] hl (fun x hx => by simp at hx; subst hx; exact .v _) (G := fun x => ∃ c, x = .agg c ∧ TmP r c) fun _ _ x H' ⟨hE, xc, hx, hxc⟩ _ => ⟨hE, x, by rw [hx]; exact tmp_keep hxc, xc, hx, hxc⟩).mono ?_
  rintro x H' ⟨⟨c, hx, hc⟩, hH⟩
  exact ⟨r, m', c, ⟨hx, hc⟩, hpr, hH⟩

/-- What term.Subst answers. -/
def SubS (at_ : Int) (t s r : Tm) (e : Int) : Prop :=
  Tm.All TmB r ∧ (e = 0 → checkF canF r = 0 ∧ r = putT at_ s 0 t) ∧ (checkF canF t = 0 → checkF canF s = 0 → 0 ≤ at_ → e = 0 ∨ e = 2) ∧ (e = 0 ∨ e = 1 ∨ e = 2 ∨ e = 10)

theorem check_vals (t : Tm) : checkF canF t = 0 ∨ checkF canF t = 2 ∨ checkF canF t = 10 := by
  unfold checkF
  split
  · exact .inr (.inl rfl)
  split
  · exact .inr (.inr rfl)
  · exact .inl rfl
theorem tmb_zero : Tm.All TmB zeroTm := ⟨⟨⟨by decide, by decide⟩, ⟨by decide, by decide⟩, Nat.zero_le _, by decide, by decide, fun l hl => by cases hl⟩, trivial⟩

set_option maxRecDepth 100000 in
theorem Subst_ok (at_ : Int) (hr : Rng at_) (hat : at_ ≤ 1099511627776) (t s : Tm) (ht : Tm.All TmB t) (hs : Tm.All TmB s) (tc sc : List AV) (hT : TmP t tc) (hS : TmP s sc) (H : AHeap) :
    SCall Try.prog 45 [.agg tc, aint at_, .agg sc] H fun x H' => (∃ r e, TmE r e x ∧ SubS at_ t s r e) ∧ H' = H := by
  have hT' := hT
  obtain ⟨lx, kx, hc6, p1, p2, p3, p4, p5, p6, p7, p8⟩ := hT.six
  subst hc6
  have hS' := hS
  obtain ⟨sl, sk, hs6, q1, q2, q3, q4, q5, q6, q7, q8⟩ := hS.six
  subst hs6
  have main : SCall Try.prog 45 [.agg [aint t.form, aint t.n, abl t.hid, .v (.string t.name), lx, kx], aint at_, .agg [aint s.form, aint s.n, abl s.hid, .v (.string s.name), sl, sk]] H fun x H' => (∃ r e, TmE r e x ∧ SubS at_ t s r e) ∧ Ext H H' := by
    refine SCall.intro mixed cf45 ?_
    have e1 : ¬ H.next = H.next + 1 := by omega
    have e2 : ¬ H.next + 1 = H.next := by omega
    have e3 : ¬ H.next = H.next + 1 + 1 := by omega
    have e4 : ¬ H.next + 1 = H.next + 1 + 1 := by omega
    have e5 : ¬ H.next + 1 + 1 = H.next := by omega
    have e6 : ¬ H.next + 1 + 1 = H.next + 1 := by omega
    simp -implicitDefEqProofs only [c45, go_sem, Nat.reduceEqDiff, Nat.reduceAdd, Nat.reduceLeDiff, ↓reduceIte, reduceCtorEq, Int.reduceBEq, Int.reduceBNe, Int.reduceLT, Int.reduceLE, Int.reduceGT, Int.reduceGE, Int.reduceNeg, Int.reduceAdd, Int.reduceSub, Nat.reduceMul, Nat.reduceLT, Int.reduceToNat, p1, p2, p3, p4, q1, q2, q3, q4, e1, e2, e3, e4, e5, e6, afill]
    refine swp_range 2 (fun i st => st.tm 1 = aint at_ ∧ st.tm 3 = .ptr H.next 0 ∧ st.tm 5 = .ptr (H.next + 1) 0 ∧ st.tm 6 = .ptr (H.next + 1 + 1) 0 ∧ st.tm 15 = .agg [aint t.form, aint t.n, abl t.hid, .v (.string t.name), lx, kx, aint s.form, aint s.n, abl s.hid, .v (.string s.name), sl, sk] ∧ st.tm 16 = aint i ∧
      st.heap.get H.next = some (.cells [aint t.form, aint t.n, abl t.hid, .v (.string t.name), lx, kx]) ∧ st.heap.get (H.next + 1) = some (.cells [aint s.form, aint s.n, abl s.hid, .v (.string s.name), sl, sk]) ∧ st.heap.get (H.next + 1 + 1) = some (.cells z6) ∧ H.next + 3 ≤ st.heap.next ∧ Ext H st.heap ∧ (i > 0 → checkF canF t = 0) ∧ (i > 1 → checkF canF s = 0)) ?_ ?_ ?_
    · refine ⟨rfl, rfl, rfl, rfl, rfl, rfl, ?_, ?_, ?_, ?_, (((Ext.refl H).new _).new _).new _, fun h => by omega, fun h => by omega⟩
      · simp -implicitDefEqProofs only [go_sem, Nat.reduceEqDiff, Nat.reduceAdd, Nat.reduceLeDiff, ↓reduceIte, reduceCtorEq, Int.reduceBEq, Int.reduceBNe, Int.reduceLT, Int.reduceLE, Int.reduceGT, Int.reduceGE, Int.reduceNeg, Int.reduceAdd, Int.reduceSub, Nat.reduceMul, Nat.reduceLT, Int.reduceToNat, e1, e3]
      · simp -implicitDefEqProofs only [go_sem, Nat.reduceEqDiff, Nat.reduceAdd, Nat.reduceLeDiff, ↓reduceIte, reduceCtorEq, Int.reduceBEq, Int.reduceBNe, Int.reduceLT, Int.reduceLE, Int.reduceGT, Int.reduceGE, Int.reduceNeg, Int.reduceAdd, Int.reduceSub, Nat.reduceMul, Nat.reduceLT, Int.reduceToNat, e4]
      · simp -implicitDefEqProofs only [go_sem, Nat.reduceEqDiff, Nat.reduceAdd, Nat.reduceLeDiff, ↓reduceIte, reduceCtorEq, Int.reduceBEq, Int.reduceBNe, Int.reduceLT, Int.reduceLE, Int.reduceGT, Int.reduceGE, Int.reduceNeg, Int.reduceAdd, Int.reduceSub, Nat.reduceMul, Nat.reduceLT, Int.reduceToNat]
      · simp only [new_next]; omega
    · rintro i ⟨tm, H2⟩ hi ⟨t1, t3, t5, t6, t15, t16, v0, v1, v2, hn, hE, c1, c2⟩
      simp only at t1 t3 t5 t6 t15 t16 v0 v1 v2 hn hE
      have n0 : ¬ H.next = H2.next := by omega
      have n1 : ¬ H.next + 1 = H2.next := by omega
      have n2 : ¬ H.next + 1 + 1 = H2.next := by omega
      have n3 : ¬ H2.next = H.next := by omega
      have n4 : ¬ H2.next = H.next + 1 := by omega
      have n5 : ¬ H2.next = H.next + 1 + 1 := by omega
      have hE2 : ∀ o1 o2, Ext H ((H2.new o1).set H2.next o2) := fun o1 o2 => (hE.new _).set (by omega) _
      have hi01 : i = 0 ∨ i = 1 := by omega
      rcases hi01 with rfl | rfl
      · have t16' : tm 16 = aint 0 := t16
        simp -implicitDefEqProofs only [go_sem, Nat.reduceEqDiff, Nat.reduceAdd, Nat.reduceLeDiff, ↓reduceIte, reduceCtorEq, Int.reduceBEq, Int.reduceBNe, Int.reduceLT, Int.reduceLE, Int.reduceGT, Int.reduceGE, Int.reduceNeg, Int.reduceAdd, Int.reduceSub, Nat.reduceMul, Nat.reduceLT, Int.reduceToNat, t1, t3, t5, t6, t15, t16', Int.cast_ofNat_Int, p1, p2, p3, p4, q1, q2, q3, q4, n0, n1, n2, n3, n4, n5]
        refine i_callA (fs := []) (cs := []) ?_ ?_ (check_ok canF t (tmb_fine ht) _ hT'.1 _) ?_
        · rfl
        · simp -implicitDefEqProofs only [go_sem, Nat.reduceEqDiff, Nat.reduceAdd, Nat.reduceLeDiff, ↓reduceIte, reduceCtorEq, Int.reduceBEq, Int.reduceBNe, Int.reduceLT, Int.reduceLE, Int.reduceGT, Int.reduceGE, Int.reduceNeg, Int.reduceAdd, Int.reduceSub, Nat.reduceMul, Nat.reduceLT, Int.reduceToNat]
        rintro x H3 ⟨rfl, rfl⟩
        by_cases hc : checkF canF t = 0
        · rw [hc]
          simp -implicitDefEqProofs only [go_sem, Nat.reduceEqDiff, Nat.reduceAdd, Nat.reduceLeDiff, ↓reduceIte, reduceCtorEq, Int.reduceBEq, Int.reduceBNe, Int.reduceLT, Int.reduceLE, Int.reduceGT, Int.reduceGE, Int.reduceNeg, Int.reduceAdd, Int.reduceSub, Nat.reduceMul, Nat.reduceLT, Int.reduceToNat, t1, t3, t5, t6, t15, t16', Int.cast_ofNat_Int, p1, p2, p3, p4, q1, q2, q3, q4, n0, n1, n2, n3, n4, n5, v0, v1, v2]
          exact ⟨rfl, by omega, hE2 _ _, fun h => by omega⟩
        · simp -implicitDefEqProofs only [go_sem, Nat.reduceEqDiff, Nat.reduceAdd, Nat.reduceLeDiff, ↓reduceIte, reduceCtorEq, Int.reduceBEq, Int.reduceBNe, Int.reduceLT, Int.reduceLE, Int.reduceGT, Int.reduceGE, Int.reduceNeg, Int.reduceAdd, Int.reduceSub, Nat.reduceMul, Nat.reduceLT, Int.reduceToNat, t1, t3, t5, t6, t15, t16', Int.cast_ofNat_Int, p1, p2, p3, p4, q1, q2, q3, q4, n0, n1, n2, n3, n4, n5, v0, v1, v2, bne' hc, afill]
          refine ⟨⟨zeroTm, checkF canF t, ⟨z6, rfl, tmp_zero⟩, tmb_zero, fun h => absurd h hc, fun h => absurd h hc, ?_⟩, (hE2 _ _).set (by omega) _⟩
          rcases check_vals t with h | h | h <;> simp [h]
      · have c1' := c1 (by omega)
        have t16' : tm 16 = aint 1 := t16
        simp -implicitDefEqProofs only [go_sem, Nat.reduceEqDiff, Nat.reduceAdd, Nat.reduceLeDiff, ↓reduceIte, reduceCtorEq, Int.reduceBEq, Int.reduceBNe, Int.reduceLT, Int.reduceLE, Int.reduceGT, Int.reduceGE, Int.reduceNeg, Int.reduceAdd, Int.reduceSub, Nat.reduceMul, Nat.reduceLT, Int.reduceToNat, t1, t3, t5, t6, t15, t16', Int.cast_ofNat_Int, p1, p2, p3, p4, q1, q2, q3, q4, n0, n1, n2, n3, n4, n5]
        refine i_callA (fs := []) (cs := []) ?_ ?_ (check_ok canF s (tmb_fine hs) _ hS'.1 _) ?_
        · rfl
        · simp -implicitDefEqProofs only [go_sem, Nat.reduceEqDiff, Nat.reduceAdd, Nat.reduceLeDiff, ↓reduceIte, reduceCtorEq, Int.reduceBEq, Int.reduceBNe, Int.reduceLT, Int.reduceLE, Int.reduceGT, Int.reduceGE, Int.reduceNeg, Int.reduceAdd, Int.reduceSub, Nat.reduceMul, Nat.reduceLT, Int.reduceToNat]
        rintro x H3 ⟨rfl, rfl⟩
        by_cases hc : checkF canF s = 0
        · rw [hc]
          simp -implicitDefEqProofs only [go_sem, Nat.reduceEqDiff, Nat.reduceAdd, Nat.reduceLeDiff, ↓reduceIte, reduceCtorEq, Int.reduceBEq, Int.reduceBNe, Int.reduceLT, Int.reduceLE, Int.reduceGT, Int.reduceGE, Int.reduceNeg, Int.reduceAdd, Int.reduceSub, Nat.reduceMul, Nat.reduceLT, Int.reduceToNat, t1, t3, t5, t6, t15, t16', Int.cast_ofNat_Int, p1, p2, p3, p4, q1, q2, q3, q4, n0, n1, n2, n3, n4, n5, v0, v1, v2]
          exact ⟨rfl, by omega, hE2 _ _, c1'⟩
        · simp -implicitDefEqProofs only [go_sem, Nat.reduceEqDiff, Nat.reduceAdd, Nat.reduceLeDiff, ↓reduceIte, reduceCtorEq, Int.reduceBEq, Int.reduceBNe, Int.reduceLT, Int.reduceLE, Int.reduceGT, Int.reduceGE, Int.reduceNeg, Int.reduceAdd, Int.reduceSub, Nat.reduceMul, Nat.reduceLT, Int.reduceToNat, t1, t3, t5, t6, t15, t16', Int.cast_ofNat_Int, p1, p2, p3, p4, q1, q2, q3, q4, n0, n1, n2, n3, n4, n5, v0, v1, v2, bne' hc, afill]
          refine ⟨⟨zeroTm, checkF canF s, ⟨z6, rfl, tmp_zero⟩, tmb_zero, fun h => absurd h hc, fun _ h => absurd h hc, ?_⟩, (hE2 _ _).set (by omega) _⟩
          rcases check_vals s with h | h | h <;> simp [h]
    · rintro ⟨tm, H2⟩ ⟨t1, t3, t5, t6, t15, t16, v0, v1, v2, hn, hE, c1, c2⟩
      simp only at t1 t3 t5 t6 t15 t16 v0 v1 v2 hn hE
      have c1' := c1 (by omega)
      have c2' := c2 (by omega)
      have t16' : tm 16 = aint 2 := t16
      by_cases hneg : at_ < 0
      · simp -implicitDefEqProofs only [go_sem, Nat.reduceEqDiff, Nat.reduceAdd, Nat.reduceLeDiff, ↓reduceIte, reduceCtorEq, Int.reduceBEq, Int.reduceBNe, Int.reduceLT, Int.reduceLE, Int.reduceGT, Int.reduceGE, Int.reduceNeg, Int.reduceAdd, Int.reduceSub, Nat.reduceMul, Nat.reduceLT, Int.reduceToNat, t1, t3, t5, t6, t15, t16', v0, v1, v2, hneg, afill]
        exact ⟨⟨zeroTm, 1, ⟨z6, rfl, tmp_zero⟩, tmb_zero, fun h => by omega, fun _ _ h => by omega, by omega⟩, hE.set (by omega) _⟩
      have n0 : ¬ H.next = H2.next := by omega
      have n1 : ¬ H.next + 1 = H2.next := by omega
      have n2 : ¬ H.next + 1 + 1 = H2.next := by omega
      have n3 : ¬ H2.next = H.next := by omega
      have n4 : ¬ H2.next = H.next + 1 := by omega
      have n5 : ¬ H2.next = H.next + 1 + 1 := by omega
      obtain ⟨z1, z2⟩ := check_sz c1'
      obtain ⟨z3, z4⟩ := check_sz c2'
      have htv := check_vn ht c1'
      have hsv := check_vn hs c2'
      have hmin : amm false (aint at_) (.v (.int .i64 1099511627776)) = some (aint at_) := by
        simp only [amm, Bool.false_eq_true, if_false]
        rw [if_neg (by omega)]
      simp -implicitDefEqProofs only [go_sem, Nat.reduceEqDiff, Nat.reduceAdd, Nat.reduceLeDiff, ↓reduceIte, reduceCtorEq, Int.reduceBEq, Int.reduceBNe, Int.reduceLT, Int.reduceLE, Int.reduceGT, Int.reduceGE, Int.reduceNeg, Int.reduceAdd, Int.reduceSub, Nat.reduceMul, Nat.reduceLT, Int.reduceToNat, t1, t3, t5, t6, t15, t16', v0, v1, v2, hneg, hmin, n0, n1, n2, n3, n4, n5, p1, p2, p3, p4, q1, q2, q3, q4]
      refine i_callA (fs := []) (cs := []) ?_ ?_ (rawSubst_ok at_ (by omega) t s ht hs htv hsv z1 z2 z3 z4 _ _ hT' hS' 40002 (by omega) H2.next _ ?_ ?_) ?_
      · rfl
      · simp -implicitDefEqProofs only [go_sem, Nat.reduceEqDiff, Nat.reduceAdd, Nat.reduceLeDiff, ↓reduceIte, reduceCtorEq, Int.reduceBEq, Int.reduceBNe, Int.reduceLT, Int.reduceLE, Int.reduceGT, Int.reduceGE, Int.reduceNeg, Int.reduceAdd, Int.reduceSub, Nat.reduceMul, Nat.reduceLT, Int.reduceToNat]
      · simp -implicitDefEqProofs only [go_sem, Nat.reduceEqDiff, Nat.reduceAdd, Nat.reduceLeDiff, ↓reduceIte, reduceCtorEq, Int.reduceBEq, Int.reduceBNe, Int.reduceLT, Int.reduceLE, Int.reduceGT, Int.reduceGE, Int.reduceNeg, Int.reduceAdd, Int.reduceSub, Nat.reduceMul, Nat.reduceLT, Int.reduceToNat]
      · simp -implicitDefEqProofs only [go_sem, Nat.reduceEqDiff, Nat.reduceAdd, Nat.reduceLeDiff, ↓reduceIte, reduceCtorEq, Int.reduceBEq, Int.reduceBNe, Int.reduceLT, Int.reduceLE, Int.reduceGT, Int.reduceGE, Int.reduceNeg, Int.reduceAdd, Int.reduceSub, Nat.reduceMul, Nat.reduceLT, Int.reduceToNat]; omega
      rintro x H3 ⟨r, m', rc, ⟨rfl, hrc⟩, ⟨hr1, hr2⟩, rfl⟩
      obtain ⟨ax, bx, hx6, k1, k2, k3, k4, _⟩ := hrc.six
      subst hx6
      have n6 : ¬ H2.next + 1 = H2.next := by omega
      have n7 : ¬ H2.next = H2.next + 1 := by omega
      have n8 : ¬ H.next + 1 + 1 = H2.next + 1 := by omega
      have n9 : ¬ H.next = H2.next + 1 := by omega
      have n10 : ¬ H.next + 1 = H2.next + 1 := by omega
      have hF : ∀ o1 o2 o3 o4 o5 o6, Ext H ((((((H2.new o1).set H2.next o2).set H2.next o3).new o4).set (H2.next + 1) o5).set (H.next + 1 + 1) o6) := fun o1 o2 o3 o4 o5 o6 => (((((hE.new _).set (by omega) _).set (by omega) _).new _).set (by omega) _).set (by omega) _
      simp -implicitDefEqProofs only [go_sem, Nat.reduceEqDiff, Nat.reduceAdd, Nat.reduceLeDiff, ↓reduceIte, reduceCtorEq, Int.reduceBEq, Int.reduceBNe, Int.reduceLT, Int.reduceLE, Int.reduceGT, Int.reduceGE, Int.reduceNeg, Int.reduceAdd, Int.reduceSub, Nat.reduceMul, Nat.reduceLT, Int.reduceToNat, t1, t3, t5, t6, n0, n1, n2, n3, n4, n5, n6, n7, n8, n9, n10, k1, k2, k3, k4]
      by_cases hneg2 : m' < 0
      · refine i_callA (fs := []) (cs := []) ?_ ?_ (told_neg r _ hrc m' hneg2 _) ?_
        · rfl
        · simp -implicitDefEqProofs only [go_sem, Nat.reduceEqDiff, Nat.reduceAdd, Nat.reduceLeDiff, ↓reduceIte, reduceCtorEq, Int.reduceBEq, Int.reduceBNe, Int.reduceLT, Int.reduceLE, Int.reduceGT, Int.reduceGE, Int.reduceNeg, Int.reduceAdd, Int.reduceSub, Nat.reduceMul, Nat.reduceLT, Int.reduceToNat]
        rintro x H3 ⟨⟨c3, rfl, h3⟩, rfl⟩
        obtain ⟨ax3, bx3, hx63, l1, l2, l3, l4, _⟩ := h3.six
        subst hx63
        simp -implicitDefEqProofs only [go_sem, Nat.reduceEqDiff, Nat.reduceAdd, Nat.reduceLeDiff, ↓reduceIte, reduceCtorEq, Int.reduceBEq, Int.reduceBNe, Int.reduceLT, Int.reduceLE, Int.reduceGT, Int.reduceGE, Int.reduceNeg, Int.reduceAdd, Int.reduceSub, Nat.reduceMul, Nat.reduceLT, Int.reduceToNat, t1, t3, t5, t6, n0, n1, n2, n3, n4, n5, n6, n7, n8, n9, n10, v2, l1, l2, l3, l4]
        exact ⟨⟨zeroTm, 2, ⟨_, rfl, h3⟩, tmb_zero, fun h => by omega, fun _ _ _ => .inr rfl, by omega⟩, hF _ _ _ _ _ _⟩
      · have hr3 := hr1 (by omega)
        have hrb : Tm.All TmB r := by rw [hr3]; exact tmb_put at_ (by omega) s hs hsv t ht htv 0 (by omega) (by omega)
        refine i_callA (fs := []) (cs := []) ?_ ?_ (told_ok r hrb _ hrc m' _) ?_
        · rfl
        · simp -implicitDefEqProofs only [go_sem, Nat.reduceEqDiff, Nat.reduceAdd, Nat.reduceLeDiff, ↓reduceIte, reduceCtorEq, Int.reduceBEq, Int.reduceBNe, Int.reduceLT, Int.reduceLE, Int.reduceGT, Int.reduceGE, Int.reduceNeg, Int.reduceAdd, Int.reduceSub, Nat.reduceMul, Nat.reduceLT, Int.reduceToNat]
        rintro x H3 ⟨⟨c3, rfl, h3⟩, rfl⟩
        obtain ⟨ax3, bx3, hx63, l1, l2, l3, l4, _⟩ := h3.six
        subst hx63
        simp -implicitDefEqProofs only [go_sem, Nat.reduceEqDiff, Nat.reduceAdd, Nat.reduceLeDiff, ↓reduceIte, reduceCtorEq, Int.reduceBEq, Int.reduceBNe, Int.reduceLT, Int.reduceLE, Int.reduceGT, Int.reduceGE, Int.reduceNeg, Int.reduceAdd, Int.reduceSub, Nat.reduceMul, Nat.reduceLT, Int.reduceToNat, t1, t3, t5, t6, n0, n1, n2, n3, n4, n5, n6, n7, n8, n9, n10, v2, l1, l2, l3, l4]
        refine ⟨⟨_, _, ⟨_, rfl, h3⟩, ?_⟩, hF _ _ _ _ _ _⟩
        by_cases hcr : checkF canF r = 0
        · have : toldF m' r = (r, 0) := by unfold toldF; rw [if_neg (by simp [hcr, hneg2])]
          rw [this]
          exact ⟨hrb, fun _ => ⟨hcr, hr3⟩, fun _ _ _ => .inl rfl, .inl rfl⟩
        · have : toldF m' r = (zeroTm, 2) := by unfold toldF; rw [if_pos (.inr hcr)]
          rw [this]
          exact ⟨tmb_zero, fun h => by simp at h, fun _ _ _ => .inr rfl, by simp⟩
  exact main.frz fun _ _ x H' ⟨⟨r, e, hx, hs⟩, hE⟩ _ => ⟨hE, x, .keep _ (hx.old _), r, e, hx, hs⟩
end Go.Proofs.Ytooaiddfokbffaa.E

/- The law TermLaws, walked. Conditions: none. -/
set_option linter.unusedVariables false
set_option linter.unusedSimpArgs false
namespace Go.Proofs.Ytooaiddfokbffaa.E
open Go Go.Proofs
attribute [local go_sem] s_seq s_ops s_draw s_block s_skip s_ret s_exit i_nil i_cons i_run i_runG s_condQ c_true c_false aop ev_t ev_c updO_at updO_no upd_at t_normal t_ret t_exit b_normal b_ret b_exit a_some ac_v ac_agg ac_ptr ac_slc ac_ro ac_rop ac_fn new_next set_next argTm_zero argTm_succ argTm_nil ab_bool ab_uv beq_self_eq_true Option.some_beq_some Bool.not_not beq_iff_eq decide_true decide_false Bool.not_true Bool.not_false afld aload astore apack alen_str alen_ro alen_slc alen_nil new_get set_get ite_true ite_false Option.map_some Option.bind_some ibin isShift Nat.add_zero Nat.zero_add List.length_cons List.length_nil List.drop_zero List.drop_succ_cons List.take_succ_cons List.take_zero if_true if_false setL List.set_cons_zero List.set_cons_succ List.all_cons List.all_nil one_int one_bool one_str one_nil one_ptr one_slc one_ro one_rop one_fn Bool.and_self Bool.and_true true_and and_true and_self Bool.false_eq_true post_ret post_normal resAll resOne packR Option.some.injEq exists_eq_left' List.map_cons List.map_nil List.nil_append List.append_nil List.cons_append d_nil d_cons k_nil k_cons g_op g_same g_new avBlock forall_eq' List.getElem?_cons_succ List.getElem?_cons_zero List.getElem?_nil okind gOk bne false_imp_iff forall_const imp_self implies_true true_imp_iff i_callG

theorem size_no {t : Tm} (h : ¬ checkF canF t = 0) : sizeF canF t = 0 := if_neg h
theorem size_yes {t : Tm} (h : checkF canF t = 0) : 0 < sizeF canF t ∧ sizeF canF t ≤ 20000 := by
  have h2 : sizeF canF t = (fitT 0 1 t).2 := if_pos h
  have := fit_bound t 0 1 (check_form h).1
  omega

theorem tmp_of {t : Tm} {c : List AV} (h : TmR t c) (o : ∀ y ∈ c, Old 0 y) : TmP t c := ⟨h, o⟩

theorem LiftF_up {t : Tm} (h : checkF canF t = 0) : LiftF 0 1 t = toldF 0 (liftT 0 1 0 t) := by
  unfold LiftF
  rw [if_neg (by simp [h]), if_neg (by omega)]
  unfold rawLiftF
  rw [if_neg (by omega), clean_lift]
theorem told_cases (t : Tm) : (toldF 0 t = (t, 0) ∧ checkF canF t = 0) ∨ toldF 0 t = (zeroTm, 2) := by
  unfold toldF
  by_cases h : checkF canF t = 0
  · rw [if_neg (by simp [h])]; exact .inl ⟨rfl, h⟩
  · rw [if_pos (.inr h)]; exact .inr rfl
theorem vok_vk {t : Tm} (h : Tm.All Vok t) : Tm.All Vk t := all_mono (fun t h hf => (h.2 hf).2) t h

def UpS (t r : Tm) (e : Int) : Prop := Tm.All TmB r ∧ (e = 0 → checkF canF r = 0 ∧ r = liftT 0 1 0 t) ∧ (e = 0 ∨ e = 2)
theorem up_ok (t : Tm) (ha : Tm.All TmB t) (hc : checkF canF t = 0) (cells : List AV) (hT : TmP t cells) (H : AHeap) :
    SCall Try.prog 17 [.agg cells, aint 0, aint 1] H fun x H' => (∃ r e, TmE r e x ∧ UpS t r e) ∧ H' = H := by
  have hz := check_sz hc
  refine (Lift_ok 0 1 ⟨by omega, by omega⟩ ⟨by omega, by omega⟩ t ha (by omega) (by omega) cells hT H).mono ?_
  rintro x H' ⟨hx, hH⟩
  rw [LiftF_up hc] at hx
  refine ⟨⟨_, _, hx, ?_⟩, hH⟩
  rcases told_cases (liftT 0 1 0 t) with ⟨h1, h2⟩ | h1
  · rw [h1]; exact ⟨tmb_lift 0 1 (by omega) t ha (check_vn ha hc) 0, fun _ => ⟨h2, rfl⟩, .inl rfl⟩
  · rw [h1]; exact ⟨tmb_zero, fun h => by simp at h, .inr rfl⟩

def At (G : AHeap) (b : Nat) (o : AObj) : Prop := G.get b = some o ∧ b < G.next
theorem At.ext {G G1 : AHeap} {b : Nat} {o : AObj} (h : At G b o) (hE : Ext G G1) : At G1 b o := ⟨(hE.2 b h.2).trans h.1, Nat.lt_of_lt_of_le h.2 hE.1⟩
theorem At.put (G : AHeap) (o o' : AObj) : At ((G.new o).set G.next o') G.next o' := ⟨by rw [set_get, if_pos rfl], by simp⟩
theorem Ext.put1 (G : AHeap) (o o' : AObj) : Ext G ((G.new o).set G.next o') := ((Ext.refl G).new _).set (by omega) _

set_option maxRecDepth 100000 in
theorem law_laws (t : Tm) (ht : Tm.All TmB t) (tc : List AV) (hT : TmR t tc) (ot : ∀ y ∈ tc, Old 0 y) (s : Tm) (hs : Tm.All TmB s) (sc : List AV) (hS : TmR s sc) (os : ∀ y ∈ sc, Old 0 y)
    (u : Tm) (hu : Tm.All TmB u) (uc : List AV) (hU : TmR u uc) (ou : ∀ y ∈ uc, Old 0 y) (H : AHeap) :
    SCall Try.prog 9 [.agg tc, .agg sc, .agg uc] H fun x H' => x = abl true ∧ H' = H := by
  have hTP := tmp_of hT ot
  have hSP := tmp_of hS os
  have hUP := tmp_of hU ou
  have hT' := hT
  have hS' := hS
  have hU' := hU
  obtain ⟨lx, kx, ls, cs, rfl, hl1, hl2, hk1, hk2⟩ := hT.six
  obtain ⟨lx', kx', ls', cs', rfl, hl1', hl2', hk1', hk2'⟩ := hS.six
  obtain ⟨lx'', kx'', ls'', cs'', rfl, hl1'', hl2'', hk1'', hk2''⟩ := hU.six
  have p1 := hl1.one
  have p2 := hl1.cells
  have p3 := hk1.one
  have p4 := hk1.cells
  have q1 := hl1'.one
  have q2 := hl1'.cells
  have q3 := hk1'.one
  have q4 := hk1'.cells
  have r1 := hl1''.one
  have r2 := hl1''.cells
  have r3 := hk1''.one
  have r4 := hk1''.cells
  refine SCall.val (SCall.intro mixed cf9 ?_)
  have e1 : ¬ H.next = H.next + 1 := by omega
  have e2 : ¬ H.next + 1 = H.next := by omega
  have e3 : ¬ H.next = H.next + 1 + 1 := by omega
  have e4 : ¬ H.next + 1 = H.next + 1 + 1 := by omega
  have e5 : ¬ H.next + 1 + 1 = H.next := by omega
  have e6 : ¬ H.next + 1 + 1 = H.next + 1 := by omega
  have hE0 : ∀ o1 o2 o3, Ext H (((H.new o1).new o2).new o3) := fun o1 o2 o3 => (((Ext.refl H).new _).new _).new _
  have fa := tmb_fine2 ht
  have fb := tmb_fine2 hs
  have fc := tmb_fine2 hu
  simp -implicitDefEqProofs only [c9, go_sem, Nat.reduceEqDiff, Nat.reduceAdd, Nat.reduceLeDiff, ↓reduceIte, reduceCtorEq, Int.reduceBEq, Int.reduceBNe, Int.reduceLT, Int.reduceLE, Int.reduceGT, Int.reduceGE, Int.reduceNeg, Int.reduceAdd, Int.reduceSub, Nat.reduceMul, Nat.reduceLT, Int.reduceToNat, p1, p2, p3, p4, q1, q2, q3, q4, r1, r2, r3, r4, e1, e2, e3, e4, e5, e6]
  refine i_callA (fs := []) (cs := []) ?_ ?_ (alive2_ok _) ?_
  · rfl
  · simp -implicitDefEqProofs only [go_sem, Nat.reduceEqDiff, Nat.reduceAdd, Nat.reduceLeDiff, ↓reduceIte, reduceCtorEq, Int.reduceBEq, Int.reduceBNe, Int.reduceLT, Int.reduceLE, Int.reduceGT, Int.reduceGE, Int.reduceNeg, Int.reduceAdd, Int.reduceSub, Nat.reduceMul, Nat.reduceLT, Int.reduceToNat]
  rintro x H3 ⟨rfl, rfl⟩
  simp -implicitDefEqProofs only [go_sem, Nat.reduceEqDiff, Nat.reduceAdd, Nat.reduceLeDiff, ↓reduceIte, reduceCtorEq, Int.reduceBEq, Int.reduceBNe, Int.reduceLT, Int.reduceLE, Int.reduceGT, Int.reduceGE, Int.reduceNeg, Int.reduceAdd, Int.reduceSub, Nat.reduceMul, Nat.reduceLT, Int.reduceToNat, p1, p2, p3, p4, q1, q2, q3, q4, r1, r2, r3, r4, e1, e2, e3, e4, e5, e6]
  refine i_callA (fs := []) (cs := []) ?_ ?_ (big_ok t ht _ hT' _) ?_
  · rfl
  · simp -implicitDefEqProofs only [go_sem, Nat.reduceEqDiff, Nat.reduceAdd, Nat.reduceLeDiff, ↓reduceIte, reduceCtorEq, Int.reduceBEq, Int.reduceBNe, Int.reduceLT, Int.reduceLE, Int.reduceGT, Int.reduceGE, Int.reduceNeg, Int.reduceAdd, Int.reduceSub, Nat.reduceMul, Nat.reduceLT, Int.reduceToNat]
  rintro x H3 ⟨rfl, rfl⟩
  cases h1 : bigF t with
  | true =>
    simp -implicitDefEqProofs only [go_sem, Nat.reduceEqDiff, Nat.reduceAdd, Nat.reduceLeDiff, ↓reduceIte, reduceCtorEq, Int.reduceBEq, Int.reduceBNe, Int.reduceLT, Int.reduceLE, Int.reduceGT, Int.reduceGE, Int.reduceNeg, Int.reduceAdd, Int.reduceSub, Nat.reduceMul, Nat.reduceLT, Int.reduceToNat, p1, p2, p3, p4, q1, q2, q3, q4, r1, r2, r3, r4, e1, e2, e3, e4, e5, e6, g_opG]
    exact hE0 _ _ _
  | false =>
  simp -implicitDefEqProofs only [go_sem, Nat.reduceEqDiff, Nat.reduceAdd, Nat.reduceLeDiff, ↓reduceIte, reduceCtorEq, Int.reduceBEq, Int.reduceBNe, Int.reduceLT, Int.reduceLE, Int.reduceGT, Int.reduceGE, Int.reduceNeg, Int.reduceAdd, Int.reduceSub, Nat.reduceMul, Nat.reduceLT, Int.reduceToNat, p1, p2, p3, p4, q1, q2, q3, q4, r1, r2, r3, r4, e1, e2, e3, e4, e5, e6]
  refine i_callA (fs := []) (cs := []) ?_ ?_ (big_ok s hs _ hS' _) ?_
  · rfl
  · simp -implicitDefEqProofs only [go_sem, Nat.reduceEqDiff, Nat.reduceAdd, Nat.reduceLeDiff, ↓reduceIte, reduceCtorEq, Int.reduceBEq, Int.reduceBNe, Int.reduceLT, Int.reduceLE, Int.reduceGT, Int.reduceGE, Int.reduceNeg, Int.reduceAdd, Int.reduceSub, Nat.reduceMul, Nat.reduceLT, Int.reduceToNat]
  rintro x H3 ⟨rfl, rfl⟩
  cases h2 : bigF s with
  | true =>
    simp -implicitDefEqProofs only [go_sem, Nat.reduceEqDiff, Nat.reduceAdd, Nat.reduceLeDiff, ↓reduceIte, reduceCtorEq, Int.reduceBEq, Int.reduceBNe, Int.reduceLT, Int.reduceLE, Int.reduceGT, Int.reduceGE, Int.reduceNeg, Int.reduceAdd, Int.reduceSub, Nat.reduceMul, Nat.reduceLT, Int.reduceToNat, p1, p2, p3, p4, q1, q2, q3, q4, r1, r2, r3, r4, e1, e2, e3, e4, e5, e6, g_opG]
    exact hE0 _ _ _
  | false =>
  simp -implicitDefEqProofs only [go_sem, Nat.reduceEqDiff, Nat.reduceAdd, Nat.reduceLeDiff, ↓reduceIte, reduceCtorEq, Int.reduceBEq, Int.reduceBNe, Int.reduceLT, Int.reduceLE, Int.reduceGT, Int.reduceGE, Int.reduceNeg, Int.reduceAdd, Int.reduceSub, Nat.reduceMul, Nat.reduceLT, Int.reduceToNat, p1, p2, p3, p4, q1, q2, q3, q4, r1, r2, r3, r4, e1, e2, e3, e4, e5, e6]
  refine i_callA (fs := []) (cs := []) ?_ ?_ (big_ok u hu _ hU' _) ?_
  · rfl
  · simp -implicitDefEqProofs only [go_sem, Nat.reduceEqDiff, Nat.reduceAdd, Nat.reduceLeDiff, ↓reduceIte, reduceCtorEq, Int.reduceBEq, Int.reduceBNe, Int.reduceLT, Int.reduceLE, Int.reduceGT, Int.reduceGE, Int.reduceNeg, Int.reduceAdd, Int.reduceSub, Nat.reduceMul, Nat.reduceLT, Int.reduceToNat]
  rintro x H3 ⟨rfl, rfl⟩
  cases h3 : bigF u with
  | true =>
    simp -implicitDefEqProofs only [go_sem, Nat.reduceEqDiff, Nat.reduceAdd, Nat.reduceLeDiff, ↓reduceIte, reduceCtorEq, Int.reduceBEq, Int.reduceBNe, Int.reduceLT, Int.reduceLE, Int.reduceGT, Int.reduceGE, Int.reduceNeg, Int.reduceAdd, Int.reduceSub, Nat.reduceMul, Nat.reduceLT, Int.reduceToNat, p1, p2, p3, p4, q1, q2, q3, q4, r1, r2, r3, r4, e1, e2, e3, e4, e5, e6, g_opG]
    exact hE0 _ _ _
  | false =>
  obtain ⟨_, zt, gt⟩ := big_small h1
  obtain ⟨_, zs, gs⟩ := big_small h2
  obtain ⟨_, zu, gu⟩ := big_small h3
  simp -implicitDefEqProofs only [go_sem, Nat.reduceEqDiff, Nat.reduceAdd, Nat.reduceLeDiff, ↓reduceIte, reduceCtorEq, Int.reduceBEq, Int.reduceBNe, Int.reduceLT, Int.reduceLE, Int.reduceGT, Int.reduceGE, Int.reduceNeg, Int.reduceAdd, Int.reduceSub, Nat.reduceMul, Nat.reduceLT, Int.reduceToNat, p1, p2, p3, p4, q1, q2, q3, q4, r1, r2, r3, r4, e1, e2, e3, e4, e5, e6, g_opG]
  refine i_callA (fs := []) (cs := []) ?_ ?_ (size2_ok canF t fa _ hT' _) ?_
  · rfl
  · simp -implicitDefEqProofs only [go_sem, Nat.reduceEqDiff, Nat.reduceAdd, Nat.reduceLeDiff, ↓reduceIte, reduceCtorEq, Int.reduceBEq, Int.reduceBNe, Int.reduceLT, Int.reduceLE, Int.reduceGT, Int.reduceGE, Int.reduceNeg, Int.reduceAdd, Int.reduceSub, Nat.reduceMul, Nat.reduceLT, Int.reduceToNat]
  rintro x H3 ⟨rfl, rfl⟩
  rw [size_same]
  by_cases ct : checkF canF t = 0
  case neg =>
    rw [size_no ct]
    simp -implicitDefEqProofs only [go_sem, Nat.reduceEqDiff, Nat.reduceAdd, Nat.reduceLeDiff, ↓reduceIte, reduceCtorEq, Int.reduceBEq, Int.reduceBNe, Int.reduceLT, Int.reduceLE, Int.reduceGT, Int.reduceGE, Int.reduceNeg, Int.reduceAdd, Int.reduceSub, Nat.reduceMul, Nat.reduceLT, Int.reduceToNat, p1, p2, p3, p4, q1, q2, q3, q4, r1, r2, r3, r4, e1, e2, e3, e4, e5, e6, g_opG]
    exact hE0 _ _ _
  have yt := size_yes ct
  generalize hzt : sizeF canF t = zt' at *
  have yt0 : (zt' == 0) = false := bne' (by omega)
  simp -implicitDefEqProofs only [go_sem, Nat.reduceEqDiff, Nat.reduceAdd, Nat.reduceLeDiff, ↓reduceIte, reduceCtorEq, Int.reduceBEq, Int.reduceBNe, Int.reduceLT, Int.reduceLE, Int.reduceGT, Int.reduceGE, Int.reduceNeg, Int.reduceAdd, Int.reduceSub, Nat.reduceMul, Nat.reduceLT, Int.reduceToNat, p1, p2, p3, p4, q1, q2, q3, q4, r1, r2, r3, r4, e1, e2, e3, e4, e5, e6, g_opG, yt0]
  refine i_callA (fs := []) (cs := []) ?_ ?_ (size2_ok canF s fb _ hS' _) ?_
  · rfl
  · simp -implicitDefEqProofs only [go_sem, Nat.reduceEqDiff, Nat.reduceAdd, Nat.reduceLeDiff, ↓reduceIte, reduceCtorEq, Int.reduceBEq, Int.reduceBNe, Int.reduceLT, Int.reduceLE, Int.reduceGT, Int.reduceGE, Int.reduceNeg, Int.reduceAdd, Int.reduceSub, Nat.reduceMul, Nat.reduceLT, Int.reduceToNat]
  rintro x H3 ⟨rfl, rfl⟩
  rw [size_same]
  by_cases cs : checkF canF s = 0
  case neg =>
    rw [size_no cs]
    simp -implicitDefEqProofs only [go_sem, Nat.reduceEqDiff, Nat.reduceAdd, Nat.reduceLeDiff, ↓reduceIte, reduceCtorEq, Int.reduceBEq, Int.reduceBNe, Int.reduceLT, Int.reduceLE, Int.reduceGT, Int.reduceGE, Int.reduceNeg, Int.reduceAdd, Int.reduceSub, Nat.reduceMul, Nat.reduceLT, Int.reduceToNat, p1, p2, p3, p4, q1, q2, q3, q4, r1, r2, r3, r4, e1, e2, e3, e4, e5, e6, g_opG]
    exact hE0 _ _ _
  have ys := size_yes cs
  generalize hzs : sizeF canF s = zs' at *
  have ys0 : (zs' == 0) = false := bne' (by omega)
  simp -implicitDefEqProofs only [go_sem, Nat.reduceEqDiff, Nat.reduceAdd, Nat.reduceLeDiff, ↓reduceIte, reduceCtorEq, Int.reduceBEq, Int.reduceBNe, Int.reduceLT, Int.reduceLE, Int.reduceGT, Int.reduceGE, Int.reduceNeg, Int.reduceAdd, Int.reduceSub, Nat.reduceMul, Nat.reduceLT, Int.reduceToNat, p1, p2, p3, p4, q1, q2, q3, q4, r1, r2, r3, r4, e1, e2, e3, e4, e5, e6, g_opG, ys0]
  refine i_callA (fs := []) (cs := []) ?_ ?_ (size2_ok canF u fc _ hU' _) ?_
  · rfl
  · simp -implicitDefEqProofs only [go_sem, Nat.reduceEqDiff, Nat.reduceAdd, Nat.reduceLeDiff, ↓reduceIte, reduceCtorEq, Int.reduceBEq, Int.reduceBNe, Int.reduceLT, Int.reduceLE, Int.reduceGT, Int.reduceGE, Int.reduceNeg, Int.reduceAdd, Int.reduceSub, Nat.reduceMul, Nat.reduceLT, Int.reduceToNat]
  rintro x H3 ⟨rfl, rfl⟩
  rw [size_same]
  by_cases cu : checkF canF u = 0
  case neg =>
    rw [size_no cu]
    simp -implicitDefEqProofs only [go_sem, Nat.reduceEqDiff, Nat.reduceAdd, Nat.reduceLeDiff, ↓reduceIte, reduceCtorEq, Int.reduceBEq, Int.reduceBNe, Int.reduceLT, Int.reduceLE, Int.reduceGT, Int.reduceGE, Int.reduceNeg, Int.reduceAdd, Int.reduceSub, Nat.reduceMul, Nat.reduceLT, Int.reduceToNat, p1, p2, p3, p4, q1, q2, q3, q4, r1, r2, r3, r4, e1, e2, e3, e4, e5, e6, g_opG]
    exact hE0 _ _ _
  have yu := size_yes cu
  generalize hzu : sizeF canF u = zu' at *
  have yu0 : (zu' == 0) = false := bne' (by omega)
  simp -implicitDefEqProofs only [go_sem, Nat.reduceEqDiff, Nat.reduceAdd, Nat.reduceLeDiff, ↓reduceIte, reduceCtorEq, Int.reduceBEq, Int.reduceBNe, Int.reduceLT, Int.reduceLE, Int.reduceGT, Int.reduceGE, Int.reduceNeg, Int.reduceAdd, Int.reduceSub, Nat.reduceMul, Nat.reduceLT, Int.reduceToNat, p1, p2, p3, p4, q1, q2, q3, q4, r1, r2, r3, r4, e1, e2, e3, e4, e5, e6, g_opG, yu0]
  refine i_callA (fs := []) (cs := []) ?_ ?_ (size2_ok canF t fa _ hT' _) ?_
  · rfl
  · simp -implicitDefEqProofs only [go_sem, Nat.reduceEqDiff, Nat.reduceAdd, Nat.reduceLeDiff, ↓reduceIte, reduceCtorEq, Int.reduceBEq, Int.reduceBNe, Int.reduceLT, Int.reduceLE, Int.reduceGT, Int.reduceGE, Int.reduceNeg, Int.reduceAdd, Int.reduceSub, Nat.reduceMul, Nat.reduceLT, Int.reduceToNat]
  rintro x H3 ⟨rfl, rfl⟩
  rw [size_same, hzt]
  simp -implicitDefEqProofs only [go_sem, Nat.reduceEqDiff, Nat.reduceAdd, Nat.reduceLeDiff, ↓reduceIte, reduceCtorEq, Int.reduceBEq, Int.reduceBNe, Int.reduceLT, Int.reduceLE, Int.reduceGT, Int.reduceGE, Int.reduceNeg, Int.reduceAdd, Int.reduceSub, Nat.reduceMul, Nat.reduceLT, Int.reduceToNat, p1, p2, p3, p4, q1, q2, q3, q4, r1, r2, r3, r4, e1, e2, e3, e4, e5, e6, g_opG]
  refine i_callA (fs := []) (cs := []) ?_ ?_ (size2_ok canF s fb _ hS' _) ?_
  · rfl
  · simp -implicitDefEqProofs only [go_sem, Nat.reduceEqDiff, Nat.reduceAdd, Nat.reduceLeDiff, ↓reduceIte, reduceCtorEq, Int.reduceBEq, Int.reduceBNe, Int.reduceLT, Int.reduceLE, Int.reduceGT, Int.reduceGE, Int.reduceNeg, Int.reduceAdd, Int.reduceSub, Nat.reduceMul, Nat.reduceLT, Int.reduceToNat]
  rintro x H3 ⟨rfl, rfl⟩
  rw [size_same, hzs]
  simp -implicitDefEqProofs only [go_sem, Nat.reduceEqDiff, Nat.reduceAdd, Nat.reduceLeDiff, ↓reduceIte, reduceCtorEq, Int.reduceBEq, Int.reduceBNe, Int.reduceLT, Int.reduceLE, Int.reduceGT, Int.reduceGE, Int.reduceNeg, Int.reduceAdd, Int.reduceSub, Nat.reduceMul, Nat.reduceLT, Int.reduceToNat, p1, p2, p3, p4, q1, q2, q3, q4, r1, r2, r3, r4, e1, e2, e3, e4, e5, e6, g_opG]
  refine i_callA (fs := []) (cs := []) ?_ ?_ (size2_ok canF u fc _ hU' _) ?_
  · rfl
  · simp -implicitDefEqProofs only [go_sem, Nat.reduceEqDiff, Nat.reduceAdd, Nat.reduceLeDiff, ↓reduceIte, reduceCtorEq, Int.reduceBEq, Int.reduceBNe, Int.reduceLT, Int.reduceLE, Int.reduceGT, Int.reduceGE, Int.reduceNeg, Int.reduceAdd, Int.reduceSub, Nat.reduceMul, Nat.reduceLT, Int.reduceToNat]
  rintro x H3 ⟨rfl, rfl⟩
  rw [size_same, hzu]
  have w1 : IntKind.i64.wrap (zs' + zu') = zs' + zu' := i64_ok _ (by omega)
  have hmul : zt' * (zs' + zu') ≤ 20000 * 40000 := Int.mul_le_mul (by omega) (by omega) (by omega) (by omega)
  have hmul0 : 0 ≤ zt' * (zs' + zu') := Int.mul_nonneg (by omega) (by omega)
  have w2 : IntKind.i64.wrap (zt' * (zs' + zu')) = zt' * (zs' + zu') := i64_ok _ (by omega)
  by_cases hbig : zt' * (zs' + zu') > 15000
  · simp -implicitDefEqProofs only [go_sem, Nat.reduceEqDiff, Nat.reduceAdd, Nat.reduceLeDiff, ↓reduceIte, reduceCtorEq, Int.reduceBEq, Int.reduceBNe, Int.reduceLT, Int.reduceLE, Int.reduceGT, Int.reduceGE, Int.reduceNeg, Int.reduceAdd, Int.reduceSub, Nat.reduceMul, Nat.reduceLT, Int.reduceToNat, p1, p2, p3, p4, q1, q2, q3, q4, r1, r2, r3, r4, e1, e2, e3, e4, e5, e6, g_opG, w1, w2, hbig]
    exact hE0 _ _ _
  simp -implicitDefEqProofs only [go_sem, Nat.reduceEqDiff, Nat.reduceAdd, Nat.reduceLeDiff, ↓reduceIte, reduceCtorEq, Int.reduceBEq, Int.reduceBNe, Int.reduceLT, Int.reduceLE, Int.reduceGT, Int.reduceGE, Int.reduceNeg, Int.reduceAdd, Int.reduceSub, Nat.reduceMul, Nat.reduceLT, Int.reduceToNat, p1, p2, p3, p4, q1, q2, q3, q4, r1, r2, r3, r4, e1, e2, e3, e4, e5, e6, g_opG, w1, w2, hbig]
  clear hmul hmul0 w1 w2 hbig yt0 ys0 yu0 yt ys yu hzt hzs hzu
  generalize hG0 : (((H.new (.cells [aint t.form, aint t.n, abl t.hid, .v (.string t.name), lx, kx])).new (.cells [aint s.form, aint s.n, abl s.hid, .v (.string s.name), lx', kx'])).new (.cells [aint u.form, aint u.n, abl u.hid, .v (.string u.name), lx'', kx''])) = G0
  have hE : Ext H G0 := by rw [← hG0]; exact hE0 _ _ _
  have at3 : At G0 H.next (.cells [aint t.form, aint t.n, abl t.hid, .v (.string t.name), lx, kx]) := ⟨by rw [← hG0]; simp -implicitDefEqProofs only [go_sem, Nat.reduceEqDiff, Nat.reduceAdd, Nat.reduceLeDiff, ↓reduceIte, reduceCtorEq, Int.reduceBEq, Int.reduceBNe, Int.reduceLT, Int.reduceLE, Int.reduceGT, Int.reduceGE, Int.reduceNeg, Int.reduceAdd, Int.reduceSub, Nat.reduceMul, Nat.reduceLT, Int.reduceToNat, e1, e3], by rw [← hG0]; simp only [new_next]; omega⟩
  have at4 : At G0 (H.next + 1) (.cells [aint s.form, aint s.n, abl s.hid, .v (.string s.name), lx', kx']) := ⟨by rw [← hG0]; simp -implicitDefEqProofs only [go_sem, Nat.reduceEqDiff, Nat.reduceAdd, Nat.reduceLeDiff, ↓reduceIte, reduceCtorEq, Int.reduceBEq, Int.reduceBNe, Int.reduceLT, Int.reduceLE, Int.reduceGT, Int.reduceGE, Int.reduceNeg, Int.reduceAdd, Int.reduceSub, Nat.reduceMul, Nat.reduceLT, Int.reduceToNat, e4], by rw [← hG0]; simp only [new_next]; omega⟩
  have at5 : At G0 (H.next + 1 + 1) (.cells [aint u.form, aint u.n, abl u.hid, .v (.string u.name), lx'', kx'']) := ⟨by rw [← hG0]; simp -implicitDefEqProofs only [go_sem, Nat.reduceEqDiff, Nat.reduceAdd, Nat.reduceLeDiff, ↓reduceIte, reduceCtorEq, Int.reduceBEq, Int.reduceBNe, Int.reduceLT, Int.reduceLE, Int.reduceGT, Int.reduceGE, Int.reduceNeg, Int.reduceAdd, Int.reduceSub, Nat.reduceMul, Nat.reduceLT, Int.reduceToNat], by rw [← hG0]; simp only [new_next]; omega⟩
  clear hG0
  refine i_callA (fs := []) (cs := []) ?_ ?_ (up_ok t ht ct _ hTP _) ?_
  · rfl
  · simp -implicitDefEqProofs only [go_sem, Nat.reduceEqDiff, Nat.reduceAdd, Nat.reduceLeDiff, ↓reduceIte, reduceCtorEq, Int.reduceBEq, Int.reduceBNe, Int.reduceLT, Int.reduceLE, Int.reduceGT, Int.reduceGE, Int.reduceNeg, Int.reduceAdd, Int.reduceSub, Nat.reduceMul, Nat.reduceLT, Int.reduceToNat]
  rintro x H3 ⟨⟨up, e, ⟨c, rfl, hcup⟩, hup⟩, hHH⟩
  have hHH := hHH.symm
  subst hHH
  obtain ⟨axup, bxup, hx6, k1up, k2up, k3up, k4up, _⟩ := hcup.six
  subst hx6
  simp -implicitDefEqProofs only [go_sem, Nat.reduceEqDiff, Nat.reduceAdd, Nat.reduceLeDiff, ↓reduceIte, reduceCtorEq, Int.reduceBEq, Int.reduceBNe, Int.reduceLT, Int.reduceLE, Int.reduceGT, Int.reduceGE, Int.reduceNeg, Int.reduceAdd, Int.reduceSub, Nat.reduceMul, Nat.reduceLT, Int.reduceToNat, p1, p2, p3, p4, q1, q2, q3, q4, r1, r2, r3, r4, at3.1, Nat.ne_of_lt at3.2, at4.1, Nat.ne_of_lt at4.2, at5.1, Nat.ne_of_lt at5.2, k1up, k2up, k3up, k4up]
  have hX : Ext G0 ((G0.new (.cells z6)).set G0.next (.cells [aint up.form, aint up.n, abl up.hid, .v (.string up.name), axup, bxup])) := Ext.put1 _ _ _
  have at9 : At ((G0.new (.cells z6)).set G0.next (.cells [aint up.form, aint up.n, abl up.hid, .v (.string up.name), axup, bxup])) G0.next (.cells [aint up.form, aint up.n, abl up.hid, .v (.string up.name), axup, bxup]) := At.put _ _ _
  have at3 := at3.ext hX
  have at4 := at4.ext hX
  have at5 := at5.ext hX
  have hE := hE.trans hX
  clear hX
  generalize hb9 : G0.next = b9 at *
  generalize (G0.new (.cells z6)).set b9 (.cells [aint up.form, aint up.n, abl up.hid, .v (.string up.name), axup, bxup]) = G1 at *
  refine i_callA (fs := []) (cs := []) ?_ ?_ (Subst_ok 0 ⟨by omega, by omega⟩ (by omega) up s hup.1 hs _ _ hcup hSP _) ?_
  · rfl
  · simp -implicitDefEqProofs only [go_sem, Nat.reduceEqDiff, Nat.reduceAdd, Nat.reduceLeDiff, ↓reduceIte, reduceCtorEq, Int.reduceBEq, Int.reduceBNe, Int.reduceLT, Int.reduceLE, Int.reduceGT, Int.reduceGE, Int.reduceNeg, Int.reduceAdd, Int.reduceSub, Nat.reduceMul, Nat.reduceLT, Int.reduceToNat]
  rintro x H3 ⟨⟨bk, f, ⟨c, rfl, hcbk⟩, hbk⟩, hHH⟩
  have hHH := hHH.symm
  subst hHH
  obtain ⟨axbk, bxbk, hx6, k1bk, k2bk, k3bk, k4bk, _⟩ := hcbk.six
  subst hx6
  simp -implicitDefEqProofs only [go_sem, Nat.reduceEqDiff, Nat.reduceAdd, Nat.reduceLeDiff, ↓reduceIte, reduceCtorEq, Int.reduceBEq, Int.reduceBNe, Int.reduceLT, Int.reduceLE, Int.reduceGT, Int.reduceGE, Int.reduceNeg, Int.reduceAdd, Int.reduceSub, Nat.reduceMul, Nat.reduceLT, Int.reduceToNat, p1, p2, p3, p4, q1, q2, q3, q4, r1, r2, r3, r4, at3.1, Nat.ne_of_lt at3.2, at4.1, Nat.ne_of_lt at4.2, at5.1, Nat.ne_of_lt at5.2, at9.1, Nat.ne_of_lt at9.2, k1up, k2up, k3up, k4up, k1bk, k2bk, k3bk, k4bk]
  have hX : Ext G1 ((G1.new (.cells z6)).set G1.next (.cells [aint bk.form, aint bk.n, abl bk.hid, .v (.string bk.name), axbk, bxbk])) := Ext.put1 _ _ _
  have at11 : At ((G1.new (.cells z6)).set G1.next (.cells [aint bk.form, aint bk.n, abl bk.hid, .v (.string bk.name), axbk, bxbk])) G1.next (.cells [aint bk.form, aint bk.n, abl bk.hid, .v (.string bk.name), axbk, bxbk]) := At.put _ _ _
  have at3 := at3.ext hX
  have at4 := at4.ext hX
  have at5 := at5.ext hX
  have at9 := at9.ext hX
  have hE := hE.trans hX
  clear hX
  generalize hb11 : G1.next = b11 at *
  generalize (G1.new (.cells z6)).set b11 (.cells [aint bk.form, aint bk.n, abl bk.hid, .v (.string bk.name), axbk, bxbk]) = G2 at *
  refine i_callA (fs := []) (cs := []) ?_ ?_ (num2_ok e _) ?_
  · rfl
  · simp -implicitDefEqProofs only [go_sem, Nat.reduceEqDiff, Nat.reduceAdd, Nat.reduceLeDiff, ↓reduceIte, reduceCtorEq, Int.reduceBEq, Int.reduceBNe, Int.reduceLT, Int.reduceLE, Int.reduceGT, Int.reduceGE, Int.reduceNeg, Int.reduceAdd, Int.reduceSub, Nat.reduceMul, Nat.reduceLT, Int.reduceToNat]
  rintro x H3 ⟨rfl, hHH⟩
  have hHH := hHH.symm
  subst hHH
  by_cases he : e = 0
  case neg =>
    have he2 : e = 2 := hup.2.2.resolve_left he
    have he3 : (e == 0) = false := bne' he
    have he4 : (e == 2) = true := by rw [he2]; rfl
    simp -implicitDefEqProofs only [go_sem, Nat.reduceEqDiff, Nat.reduceAdd, Nat.reduceLeDiff, ↓reduceIte, reduceCtorEq, Int.reduceBEq, Int.reduceBNe, Int.reduceLT, Int.reduceLE, Int.reduceGT, Int.reduceGE, Int.reduceNeg, Int.reduceAdd, Int.reduceSub, Nat.reduceMul, Nat.reduceLT, Int.reduceToNat, p1, p2, p3, p4, q1, q2, q3, q4, r1, r2, r3, r4, at3.1, Nat.ne_of_lt at3.2, at4.1, Nat.ne_of_lt at4.2, at5.1, Nat.ne_of_lt at5.2, at9.1, Nat.ne_of_lt at9.2, at11.1, Nat.ne_of_lt at11.2, k1up, k2up, k3up, k4up, k1bk, k2bk, k3bk, k4bk, he3]
    refine i_callA (fs := []) (cs := []) ?_ ?_ (num2_ok e _) ?_
    · rfl
    · simp -implicitDefEqProofs only [go_sem, Nat.reduceEqDiff, Nat.reduceAdd, Nat.reduceLeDiff, ↓reduceIte, reduceCtorEq, Int.reduceBEq, Int.reduceBNe, Int.reduceLT, Int.reduceLE, Int.reduceGT, Int.reduceGE, Int.reduceNeg, Int.reduceAdd, Int.reduceSub, Nat.reduceMul, Nat.reduceLT, Int.reduceToNat]
    rintro x H3 ⟨rfl, hHH⟩
    have hHH := hHH.symm
    subst hHH
    simp -implicitDefEqProofs only [go_sem, Nat.reduceEqDiff, Nat.reduceAdd, Nat.reduceLeDiff, ↓reduceIte, reduceCtorEq, Int.reduceBEq, Int.reduceBNe, Int.reduceLT, Int.reduceLE, Int.reduceGT, Int.reduceGE, Int.reduceNeg, Int.reduceAdd, Int.reduceSub, Nat.reduceMul, Nat.reduceLT, Int.reduceToNat, p1, p2, p3, p4, q1, q2, q3, q4, r1, r2, r3, r4, at3.1, Nat.ne_of_lt at3.2, at4.1, Nat.ne_of_lt at4.2, at5.1, Nat.ne_of_lt at5.2, at9.1, Nat.ne_of_lt at9.2, at11.1, Nat.ne_of_lt at11.2, k1up, k2up, k3up, k4up, k1bk, k2bk, k3bk, k4bk, he4]
    exact hE
  have he0 : (e == 0) = true := by rw [he]; rfl
  simp -implicitDefEqProofs only [go_sem, Nat.reduceEqDiff, Nat.reduceAdd, Nat.reduceLeDiff, ↓reduceIte, reduceCtorEq, Int.reduceBEq, Int.reduceBNe, Int.reduceLT, Int.reduceLE, Int.reduceGT, Int.reduceGE, Int.reduceNeg, Int.reduceAdd, Int.reduceSub, Nat.reduceMul, Nat.reduceLT, Int.reduceToNat, p1, p2, p3, p4, q1, q2, q3, q4, r1, r2, r3, r4, at3.1, Nat.ne_of_lt at3.2, at4.1, Nat.ne_of_lt at4.2, at5.1, Nat.ne_of_lt at5.2, at9.1, Nat.ne_of_lt at9.2, at11.1, Nat.ne_of_lt at11.2, k1up, k2up, k3up, k4up, k1bk, k2bk, k3bk, k4bk, he0]
  refine i_callA (fs := []) (cs := []) ?_ ?_ (num2_ok f _) ?_
  · rfl
  · simp -implicitDefEqProofs only [go_sem, Nat.reduceEqDiff, Nat.reduceAdd, Nat.reduceLeDiff, ↓reduceIte, reduceCtorEq, Int.reduceBEq, Int.reduceBNe, Int.reduceLT, Int.reduceLE, Int.reduceGT, Int.reduceGE, Int.reduceNeg, Int.reduceAdd, Int.reduceSub, Nat.reduceMul, Nat.reduceLT, Int.reduceToNat]
  rintro x H3 ⟨rfl, hHH⟩
  have hHH := hHH.symm
  subst hHH
  have hf2 := hbk.2.2.1 (hup.2.1 he).1 cs (by omega)
  by_cases hf : f = 0
  case neg =>
    have hf2 : f = 2 := hf2.resolve_left hf
    have hf3 : (f == 0) = false := bne' hf
    have hf4 : (f == 2) = true := by rw [hf2]; rfl
    have he4 : (e == 2) = false := by rw [he]; rfl
    simp -implicitDefEqProofs only [go_sem, Nat.reduceEqDiff, Nat.reduceAdd, Nat.reduceLeDiff, ↓reduceIte, reduceCtorEq, Int.reduceBEq, Int.reduceBNe, Int.reduceLT, Int.reduceLE, Int.reduceGT, Int.reduceGE, Int.reduceNeg, Int.reduceAdd, Int.reduceSub, Nat.reduceMul, Nat.reduceLT, Int.reduceToNat, p1, p2, p3, p4, q1, q2, q3, q4, r1, r2, r3, r4, at3.1, Nat.ne_of_lt at3.2, at4.1, Nat.ne_of_lt at4.2, at5.1, Nat.ne_of_lt at5.2, at9.1, Nat.ne_of_lt at9.2, at11.1, Nat.ne_of_lt at11.2, k1up, k2up, k3up, k4up, k1bk, k2bk, k3bk, k4bk, hf3]
    refine i_callA (fs := []) (cs := []) ?_ ?_ (num2_ok e _) ?_
    · rfl
    · simp -implicitDefEqProofs only [go_sem, Nat.reduceEqDiff, Nat.reduceAdd, Nat.reduceLeDiff, ↓reduceIte, reduceCtorEq, Int.reduceBEq, Int.reduceBNe, Int.reduceLT, Int.reduceLE, Int.reduceGT, Int.reduceGE, Int.reduceNeg, Int.reduceAdd, Int.reduceSub, Nat.reduceMul, Nat.reduceLT, Int.reduceToNat]
    rintro x H3 ⟨rfl, hHH⟩
    have hHH := hHH.symm
    subst hHH
    simp -implicitDefEqProofs only [go_sem, Nat.reduceEqDiff, Nat.reduceAdd, Nat.reduceLeDiff, ↓reduceIte, reduceCtorEq, Int.reduceBEq, Int.reduceBNe, Int.reduceLT, Int.reduceLE, Int.reduceGT, Int.reduceGE, Int.reduceNeg, Int.reduceAdd, Int.reduceSub, Nat.reduceMul, Nat.reduceLT, Int.reduceToNat, p1, p2, p3, p4, q1, q2, q3, q4, r1, r2, r3, r4, at3.1, Nat.ne_of_lt at3.2, at4.1, Nat.ne_of_lt at4.2, at5.1, Nat.ne_of_lt at5.2, at9.1, Nat.ne_of_lt at9.2, at11.1, Nat.ne_of_lt at11.2, k1up, k2up, k3up, k4up, k1bk, k2bk, k3bk, k4bk, he4]
    refine i_callA (fs := []) (cs := []) ?_ ?_ (num2_ok f _) ?_
    · rfl
    · simp -implicitDefEqProofs only [go_sem, Nat.reduceEqDiff, Nat.reduceAdd, Nat.reduceLeDiff, ↓reduceIte, reduceCtorEq, Int.reduceBEq, Int.reduceBNe, Int.reduceLT, Int.reduceLE, Int.reduceGT, Int.reduceGE, Int.reduceNeg, Int.reduceAdd, Int.reduceSub, Nat.reduceMul, Nat.reduceLT, Int.reduceToNat]
    rintro x H3 ⟨rfl, hHH⟩
    have hHH := hHH.symm
    subst hHH
    simp -implicitDefEqProofs only [go_sem, Nat.reduceEqDiff, Nat.reduceAdd, Nat.reduceLeDiff, ↓reduceIte, reduceCtorEq, Int.reduceBEq, Int.reduceBNe, Int.reduceLT, Int.reduceLE, Int.reduceGT, Int.reduceGE, Int.reduceNeg, Int.reduceAdd, Int.reduceSub, Nat.reduceMul, Nat.reduceLT, Int.reduceToNat, p1, p2, p3, p4, q1, q2, q3, q4, r1, r2, r3, r4, at3.1, Nat.ne_of_lt at3.2, at4.1, Nat.ne_of_lt at4.2, at5.1, Nat.ne_of_lt at5.2, at9.1, Nat.ne_of_lt at9.2, at11.1, Nat.ne_of_lt at11.2, k1up, k2up, k3up, k4up, k1bk, k2bk, k3bk, k4bk, hf4]
    exact hE
  have hf0 : (f == 0) = true := by rw [hf]; rfl
  simp -implicitDefEqProofs only [go_sem, Nat.reduceEqDiff, Nat.reduceAdd, Nat.reduceLeDiff, ↓reduceIte, reduceCtorEq, Int.reduceBEq, Int.reduceBNe, Int.reduceLT, Int.reduceLE, Int.reduceGT, Int.reduceGE, Int.reduceNeg, Int.reduceAdd, Int.reduceSub, Nat.reduceMul, Nat.reduceLT, Int.reduceToNat, p1, p2, p3, p4, q1, q2, q3, q4, r1, r2, r3, r4, at3.1, Nat.ne_of_lt at3.2, at4.1, Nat.ne_of_lt at4.2, at5.1, Nat.ne_of_lt at5.2, at9.1, Nat.ne_of_lt at9.2, at11.1, Nat.ne_of_lt at11.2, k1up, k2up, k3up, k4up, k1bk, k2bk, k3bk, k4bk, hf0]
  refine i_callA (fs := []) (cs := []) ?_ ?_ (same_ok bk t hbk.1 ht (tmb_fine hbk.1) (tmb_fine ht) _ _ hcbk.1 hT' _) ?_
  · rfl
  · simp -implicitDefEqProofs only [go_sem, Nat.reduceEqDiff, Nat.reduceAdd, Nat.reduceLeDiff, ↓reduceIte, reduceCtorEq, Int.reduceBEq, Int.reduceBNe, Int.reduceLT, Int.reduceLE, Int.reduceGT, Int.reduceGE, Int.reduceNeg, Int.reduceAdd, Int.reduceSub, Nat.reduceMul, Nat.reduceLT, Int.reduceToNat]
  rintro x H3 ⟨rfl, hHH⟩
  have hHH := hHH.symm
  subst hHH
  have hsame : sameF canF bk t = true := by
    have hb := (hbk.2.1 hf)
    unfold sameF
    rw [if_pos ⟨hb.1, ct⟩, hb.2, (hup.2.1 he).2]
    have hP : putT 0 s 0 (liftT 0 1 0 t) = liftT 0 0 0 t := put_lift s 0 (by omega) 0 t
    rw [hP, lift_zero 0 t (vok_vk (form_vok canF t ht (check_form ct).2))]
    exact same_clean t
  rw [hsame]
  simp -implicitDefEqProofs only [go_sem, Nat.reduceEqDiff, Nat.reduceAdd, Nat.reduceLeDiff, ↓reduceIte, reduceCtorEq, Int.reduceBEq, Int.reduceBNe, Int.reduceLT, Int.reduceLE, Int.reduceGT, Int.reduceGE, Int.reduceNeg, Int.reduceAdd, Int.reduceSub, Nat.reduceMul, Nat.reduceLT, Int.reduceToNat, p1, p2, p3, p4, q1, q2, q3, q4, r1, r2, r3, r4, at3.1, Nat.ne_of_lt at3.2, at4.1, Nat.ne_of_lt at4.2, at5.1, Nat.ne_of_lt at5.2, at9.1, Nat.ne_of_lt at9.2, at11.1, Nat.ne_of_lt at11.2, k1up, k2up, k3up, k4up, k1bk, k2bk, k3bk, k4bk]
  refine i_callA (fs := []) (cs := []) ?_ ?_ (up_ok u hu cu _ hUP _) ?_
  · rfl
  · simp -implicitDefEqProofs only [go_sem, Nat.reduceEqDiff, Nat.reduceAdd, Nat.reduceLeDiff, ↓reduceIte, reduceCtorEq, Int.reduceBEq, Int.reduceBNe, Int.reduceLT, Int.reduceLE, Int.reduceGT, Int.reduceGE, Int.reduceNeg, Int.reduceAdd, Int.reduceSub, Nat.reduceMul, Nat.reduceLT, Int.reduceToNat]
  rintro x H3 ⟨⟨ov, e0, ⟨c, rfl, hcov⟩, hov⟩, hHH⟩
  have hHH := hHH.symm
  subst hHH
  obtain ⟨axov, bxov, hx6, k1ov, k2ov, k3ov, k4ov, _⟩ := hcov.six
  subst hx6
  simp -implicitDefEqProofs only [go_sem, Nat.reduceEqDiff, Nat.reduceAdd, Nat.reduceLeDiff, ↓reduceIte, reduceCtorEq, Int.reduceBEq, Int.reduceBNe, Int.reduceLT, Int.reduceLE, Int.reduceGT, Int.reduceGE, Int.reduceNeg, Int.reduceAdd, Int.reduceSub, Nat.reduceMul, Nat.reduceLT, Int.reduceToNat, p1, p2, p3, p4, q1, q2, q3, q4, r1, r2, r3, r4, at3.1, Nat.ne_of_lt at3.2, at4.1, Nat.ne_of_lt at4.2, at5.1, Nat.ne_of_lt at5.2, at9.1, Nat.ne_of_lt at9.2, at11.1, Nat.ne_of_lt at11.2, k1up, k2up, k3up, k4up, k1bk, k2bk, k3bk, k4bk, k1ov, k2ov, k3ov, k4ov]
  have hX : Ext G2 ((G2.new (.cells z6)).set G2.next (.cells [aint ov.form, aint ov.n, abl ov.hid, .v (.string ov.name), axov, bxov])) := Ext.put1 _ _ _
  have at13 : At ((G2.new (.cells z6)).set G2.next (.cells [aint ov.form, aint ov.n, abl ov.hid, .v (.string ov.name), axov, bxov])) G2.next (.cells [aint ov.form, aint ov.n, abl ov.hid, .v (.string ov.name), axov, bxov]) := At.put _ _ _
  have at3 := at3.ext hX
  have at4 := at4.ext hX
  have at5 := at5.ext hX
  have at9 := at9.ext hX
  have at11 := at11.ext hX
  have hE := hE.trans hX
  clear hX
  generalize hb13 : G2.next = b13 at *
  generalize (G2.new (.cells z6)).set b13 (.cells [aint ov.form, aint ov.n, abl ov.hid, .v (.string ov.name), axov, bxov]) = G3 at *
  refine i_callA (fs := []) (cs := []) ?_ ?_ (Subst_ok 0 ⟨by omega, by omega⟩ (by omega) t s ht hs _ _ hTP hSP _) ?_
  · rfl
  · simp -implicitDefEqProofs only [go_sem, Nat.reduceEqDiff, Nat.reduceAdd, Nat.reduceLeDiff, ↓reduceIte, reduceCtorEq, Int.reduceBEq, Int.reduceBNe, Int.reduceLT, Int.reduceLE, Int.reduceGT, Int.reduceGE, Int.reduceNeg, Int.reduceAdd, Int.reduceSub, Nat.reduceMul, Nat.reduceLT, Int.reduceToNat]
  rintro x H3 ⟨⟨ra, e1, ⟨c, rfl, hcra⟩, hra⟩, hHH⟩
  have hHH := hHH.symm
  subst hHH
  obtain ⟨axra, bxra, hx6, k1ra, k2ra, k3ra, k4ra, _⟩ := hcra.six
  subst hx6
  simp -implicitDefEqProofs only [go_sem, Nat.reduceEqDiff, Nat.reduceAdd, Nat.reduceLeDiff, ↓reduceIte, reduceCtorEq, Int.reduceBEq, Int.reduceBNe, Int.reduceLT, Int.reduceLE, Int.reduceGT, Int.reduceGE, Int.reduceNeg, Int.reduceAdd, Int.reduceSub, Nat.reduceMul, Nat.reduceLT, Int.reduceToNat, p1, p2, p3, p4, q1, q2, q3, q4, r1, r2, r3, r4, at3.1, Nat.ne_of_lt at3.2, at4.1, Nat.ne_of_lt at4.2, at5.1, Nat.ne_of_lt at5.2, at9.1, Nat.ne_of_lt at9.2, at11.1, Nat.ne_of_lt at11.2, at13.1, Nat.ne_of_lt at13.2, k1up, k2up, k3up, k4up, k1bk, k2bk, k3bk, k4bk, k1ov, k2ov, k3ov, k4ov, k1ra, k2ra, k3ra, k4ra]
  have hX : Ext G3 ((G3.new (.cells z6)).set G3.next (.cells [aint ra.form, aint ra.n, abl ra.hid, .v (.string ra.name), axra, bxra])) := Ext.put1 _ _ _
  have at15 : At ((G3.new (.cells z6)).set G3.next (.cells [aint ra.form, aint ra.n, abl ra.hid, .v (.string ra.name), axra, bxra])) G3.next (.cells [aint ra.form, aint ra.n, abl ra.hid, .v (.string ra.name), axra, bxra]) := At.put _ _ _
  have at3 := at3.ext hX
  have at4 := at4.ext hX
  have at5 := at5.ext hX
  have at9 := at9.ext hX
  have at11 := at11.ext hX
  have at13 := at13.ext hX
  have hE := hE.trans hX
  clear hX
  generalize hb15 : G3.next = b15 at *
  generalize (G3.new (.cells z6)).set b15 (.cells [aint ra.form, aint ra.n, abl ra.hid, .v (.string ra.name), axra, bxra]) = G4 at *
  refine i_callA (fs := []) (cs := []) ?_ ?_ (Subst_ok 0 ⟨by omega, by omega⟩ (by omega) ra u hra.1 hu _ _ hcra hUP _) ?_
  · rfl
  · simp -implicitDefEqProofs only [go_sem, Nat.reduceEqDiff, Nat.reduceAdd, Nat.reduceLeDiff, ↓reduceIte, reduceCtorEq, Int.reduceBEq, Int.reduceBNe, Int.reduceLT, Int.reduceLE, Int.reduceGT, Int.reduceGE, Int.reduceNeg, Int.reduceAdd, Int.reduceSub, Nat.reduceMul, Nat.reduceLT, Int.reduceToNat]
  rintro x H3 ⟨⟨rb, e2, ⟨c, rfl, hcrb⟩, hrb⟩, hHH⟩
  have hHH := hHH.symm
  subst hHH
  obtain ⟨axrb, bxrb, hx6, k1rb, k2rb, k3rb, k4rb, _⟩ := hcrb.six
  subst hx6
  simp -implicitDefEqProofs only [go_sem, Nat.reduceEqDiff, Nat.reduceAdd, Nat.reduceLeDiff, ↓reduceIte, reduceCtorEq, Int.reduceBEq, Int.reduceBNe, Int.reduceLT, Int.reduceLE, Int.reduceGT, Int.reduceGE, Int.reduceNeg, Int.reduceAdd, Int.reduceSub, Nat.reduceMul, Nat.reduceLT, Int.reduceToNat, p1, p2, p3, p4, q1, q2, q3, q4, r1, r2, r3, r4, at3.1, Nat.ne_of_lt at3.2, at4.1, Nat.ne_of_lt at4.2, at5.1, Nat.ne_of_lt at5.2, at9.1, Nat.ne_of_lt at9.2, at11.1, Nat.ne_of_lt at11.2, at13.1, Nat.ne_of_lt at13.2, at15.1, Nat.ne_of_lt at15.2, k1up, k2up, k3up, k4up, k1bk, k2bk, k3bk, k4bk, k1ov, k2ov, k3ov, k4ov, k1ra, k2ra, k3ra, k4ra, k1rb, k2rb, k3rb, k4rb]
  have hX : Ext G4 ((G4.new (.cells z6)).set G4.next (.cells [aint rb.form, aint rb.n, abl rb.hid, .v (.string rb.name), axrb, bxrb])) := Ext.put1 _ _ _
  have at17 : At ((G4.new (.cells z6)).set G4.next (.cells [aint rb.form, aint rb.n, abl rb.hid, .v (.string rb.name), axrb, bxrb])) G4.next (.cells [aint rb.form, aint rb.n, abl rb.hid, .v (.string rb.name), axrb, bxrb]) := At.put _ _ _
  have at3 := at3.ext hX
  have at4 := at4.ext hX
  have at5 := at5.ext hX
  have at9 := at9.ext hX
  have at11 := at11.ext hX
  have at13 := at13.ext hX
  have at15 := at15.ext hX
  have hE := hE.trans hX
  clear hX
  generalize hb17 : G4.next = b17 at *
  generalize (G4.new (.cells z6)).set b17 (.cells [aint rb.form, aint rb.n, abl rb.hid, .v (.string rb.name), axrb, bxrb]) = G5 at *
  refine i_callA (fs := []) (cs := []) ?_ ?_ (Subst_ok 1 ⟨by omega, by omega⟩ (by omega) t ov ht hov.1 _ _ hTP hcov _) ?_
  · rfl
  · simp -implicitDefEqProofs only [go_sem, Nat.reduceEqDiff, Nat.reduceAdd, Nat.reduceLeDiff, ↓reduceIte, reduceCtorEq, Int.reduceBEq, Int.reduceBNe, Int.reduceLT, Int.reduceLE, Int.reduceGT, Int.reduceGE, Int.reduceNeg, Int.reduceAdd, Int.reduceSub, Nat.reduceMul, Nat.reduceLT, Int.reduceToNat]
  rintro x H3 ⟨⟨rc, e3, ⟨c, rfl, hcrc⟩, hrc⟩, hHH⟩
  have hHH := hHH.symm
  subst hHH
  obtain ⟨axrc, bxrc, hx6, k1rc, k2rc, k3rc, k4rc, _⟩ := hcrc.six
  subst hx6
  simp -implicitDefEqProofs only [go_sem, Nat.reduceEqDiff, Nat.reduceAdd, Nat.reduceLeDiff, ↓reduceIte, reduceCtorEq, Int.reduceBEq, Int.reduceBNe, Int.reduceLT, Int.reduceLE, Int.reduceGT, Int.reduceGE, Int.reduceNeg, Int.reduceAdd, Int.reduceSub, Nat.reduceMul, Nat.reduceLT, Int.reduceToNat, p1, p2, p3, p4, q1, q2, q3, q4, r1, r2, r3, r4, at3.1, Nat.ne_of_lt at3.2, at4.1, Nat.ne_of_lt at4.2, at5.1, Nat.ne_of_lt at5.2, at9.1, Nat.ne_of_lt at9.2, at11.1, Nat.ne_of_lt at11.2, at13.1, Nat.ne_of_lt at13.2, at15.1, Nat.ne_of_lt at15.2, at17.1, Nat.ne_of_lt at17.2, k1up, k2up, k3up, k4up, k1bk, k2bk, k3bk, k4bk, k1ov, k2ov, k3ov, k4ov, k1ra, k2ra, k3ra, k4ra, k1rb, k2rb, k3rb, k4rb, k1rc, k2rc, k3rc, k4rc]
  have hX : Ext G5 ((G5.new (.cells z6)).set G5.next (.cells [aint rc.form, aint rc.n, abl rc.hid, .v (.string rc.name), axrc, bxrc])) := Ext.put1 _ _ _
  have at19 : At ((G5.new (.cells z6)).set G5.next (.cells [aint rc.form, aint rc.n, abl rc.hid, .v (.string rc.name), axrc, bxrc])) G5.next (.cells [aint rc.form, aint rc.n, abl rc.hid, .v (.string rc.name), axrc, bxrc]) := At.put _ _ _
  have at3 := at3.ext hX
  have at4 := at4.ext hX
  have at5 := at5.ext hX
  have at9 := at9.ext hX
  have at11 := at11.ext hX
  have at13 := at13.ext hX
  have at15 := at15.ext hX
  have at17 := at17.ext hX
  have hE := hE.trans hX
  clear hX
  generalize hb19 : G5.next = b19 at *
  generalize (G5.new (.cells z6)).set b19 (.cells [aint rc.form, aint rc.n, abl rc.hid, .v (.string rc.name), axrc, bxrc]) = G6 at *
  refine i_callA (fs := []) (cs := []) ?_ ?_ (Subst_ok 0 ⟨by omega, by omega⟩ (by omega) s u hs hu _ _ hSP hUP _) ?_
  · rfl
  · simp -implicitDefEqProofs only [go_sem, Nat.reduceEqDiff, Nat.reduceAdd, Nat.reduceLeDiff, ↓reduceIte, reduceCtorEq, Int.reduceBEq, Int.reduceBNe, Int.reduceLT, Int.reduceLE, Int.reduceGT, Int.reduceGE, Int.reduceNeg, Int.reduceAdd, Int.reduceSub, Nat.reduceMul, Nat.reduceLT, Int.reduceToNat]
  rintro x H3 ⟨⟨rd, e4, ⟨c, rfl, hcrd⟩, hrd⟩, hHH⟩
  have hHH := hHH.symm
  subst hHH
  obtain ⟨axrd, bxrd, hx6, k1rd, k2rd, k3rd, k4rd, _⟩ := hcrd.six
  subst hx6
  simp -implicitDefEqProofs only [go_sem, Nat.reduceEqDiff, Nat.reduceAdd, Nat.reduceLeDiff, ↓reduceIte, reduceCtorEq, Int.reduceBEq, Int.reduceBNe, Int.reduceLT, Int.reduceLE, Int.reduceGT, Int.reduceGE, Int.reduceNeg, Int.reduceAdd, Int.reduceSub, Nat.reduceMul, Nat.reduceLT, Int.reduceToNat, p1, p2, p3, p4, q1, q2, q3, q4, r1, r2, r3, r4, at3.1, Nat.ne_of_lt at3.2, at4.1, Nat.ne_of_lt at4.2, at5.1, Nat.ne_of_lt at5.2, at9.1, Nat.ne_of_lt at9.2, at11.1, Nat.ne_of_lt at11.2, at13.1, Nat.ne_of_lt at13.2, at15.1, Nat.ne_of_lt at15.2, at17.1, Nat.ne_of_lt at17.2, at19.1, Nat.ne_of_lt at19.2, k1up, k2up, k3up, k4up, k1bk, k2bk, k3bk, k4bk, k1ov, k2ov, k3ov, k4ov, k1ra, k2ra, k3ra, k4ra, k1rb, k2rb, k3rb, k4rb, k1rc, k2rc, k3rc, k4rc, k1rd, k2rd, k3rd, k4rd]
  have hX : Ext G6 ((G6.new (.cells z6)).set G6.next (.cells [aint rd.form, aint rd.n, abl rd.hid, .v (.string rd.name), axrd, bxrd])) := Ext.put1 _ _ _
  have at21 : At ((G6.new (.cells z6)).set G6.next (.cells [aint rd.form, aint rd.n, abl rd.hid, .v (.string rd.name), axrd, bxrd])) G6.next (.cells [aint rd.form, aint rd.n, abl rd.hid, .v (.string rd.name), axrd, bxrd]) := At.put _ _ _
  have at3 := at3.ext hX
  have at4 := at4.ext hX
  have at5 := at5.ext hX
  have at9 := at9.ext hX
  have at11 := at11.ext hX
  have at13 := at13.ext hX
  have at15 := at15.ext hX
  have at17 := at17.ext hX
  have at19 := at19.ext hX
  have hE := hE.trans hX
  clear hX
  generalize hb21 : G6.next = b21 at *
  generalize (G6.new (.cells z6)).set b21 (.cells [aint rd.form, aint rd.n, abl rd.hid, .v (.string rd.name), axrd, bxrd]) = G7 at *
  refine i_callA (fs := []) (cs := []) ?_ ?_ (Subst_ok 0 ⟨by omega, by omega⟩ (by omega) rc rd hrc.1 hrd.1 _ _ hcrc hcrd _) ?_
  · rfl
  · simp -implicitDefEqProofs only [go_sem, Nat.reduceEqDiff, Nat.reduceAdd, Nat.reduceLeDiff, ↓reduceIte, reduceCtorEq, Int.reduceBEq, Int.reduceBNe, Int.reduceLT, Int.reduceLE, Int.reduceGT, Int.reduceGE, Int.reduceNeg, Int.reduceAdd, Int.reduceSub, Nat.reduceMul, Nat.reduceLT, Int.reduceToNat]
  rintro x H3 ⟨⟨rg, e5, ⟨c, rfl, hcrg⟩, hrg⟩, hHH⟩
  have hHH := hHH.symm
  subst hHH
  obtain ⟨axrg, bxrg, hx6, k1rg, k2rg, k3rg, k4rg, _⟩ := hcrg.six
  subst hx6
  simp -implicitDefEqProofs only [go_sem, Nat.reduceEqDiff, Nat.reduceAdd, Nat.reduceLeDiff, ↓reduceIte, reduceCtorEq, Int.reduceBEq, Int.reduceBNe, Int.reduceLT, Int.reduceLE, Int.reduceGT, Int.reduceGE, Int.reduceNeg, Int.reduceAdd, Int.reduceSub, Nat.reduceMul, Nat.reduceLT, Int.reduceToNat, p1, p2, p3, p4, q1, q2, q3, q4, r1, r2, r3, r4, at3.1, Nat.ne_of_lt at3.2, at4.1, Nat.ne_of_lt at4.2, at5.1, Nat.ne_of_lt at5.2, at9.1, Nat.ne_of_lt at9.2, at11.1, Nat.ne_of_lt at11.2, at13.1, Nat.ne_of_lt at13.2, at15.1, Nat.ne_of_lt at15.2, at17.1, Nat.ne_of_lt at17.2, at19.1, Nat.ne_of_lt at19.2, at21.1, Nat.ne_of_lt at21.2, k1up, k2up, k3up, k4up, k1bk, k2bk, k3bk, k4bk, k1ov, k2ov, k3ov, k4ov, k1ra, k2ra, k3ra, k4ra, k1rb, k2rb, k3rb, k4rb, k1rc, k2rc, k3rc, k4rc, k1rd, k2rd, k3rd, k4rd, k1rg, k2rg, k3rg, k4rg]
  have hX : Ext G7 ((G7.new (.cells z6)).set G7.next (.cells [aint rg.form, aint rg.n, abl rg.hid, .v (.string rg.name), axrg, bxrg])) := Ext.put1 _ _ _
  have at23 : At ((G7.new (.cells z6)).set G7.next (.cells [aint rg.form, aint rg.n, abl rg.hid, .v (.string rg.name), axrg, bxrg])) G7.next (.cells [aint rg.form, aint rg.n, abl rg.hid, .v (.string rg.name), axrg, bxrg]) := At.put _ _ _
  have at3 := at3.ext hX
  have at4 := at4.ext hX
  have at5 := at5.ext hX
  have at9 := at9.ext hX
  have at11 := at11.ext hX
  have at13 := at13.ext hX
  have at15 := at15.ext hX
  have at17 := at17.ext hX
  have at19 := at19.ext hX
  have at21 := at21.ext hX
  have hE := hE.trans hX
  clear hX
  generalize hb23 : G7.next = b23 at *
  generalize (G7.new (.cells z6)).set b23 (.cells [aint rg.form, aint rg.n, abl rg.hid, .v (.string rg.name), axrg, bxrg]) = G8 at *
  have v0 : 0 ≤ e0 ∧ e0 ≤ 10 := by have := hov.2.2; omega
  have v1 : 0 ≤ e1 ∧ e1 ≤ 10 := by have := hra.2.2.2; omega
  have v2 : 0 ≤ e2 ∧ e2 ≤ 10 := by have := hrb.2.2.2; omega
  have v3 : 0 ≤ e3 ∧ e3 ≤ 10 := by have := hrc.2.2.2; omega
  have v4 : 0 ≤ e4 ∧ e4 ≤ 10 := by have := hrd.2.2.2; omega
  have v5 : 0 ≤ e5 ∧ e5 ≤ 10 := by have := hrg.2.2.2; omega
  have a1 : IntKind.i64.wrap (e0 + e1) = e0 + e1 := i64_ok _ (by omega)
  have a2 : IntKind.i64.wrap (e0 + e1 + e2) = e0 + e1 + e2 := i64_ok _ (by omega)
  have a3 : IntKind.i64.wrap (e0 + e1 + e2 + e3) = e0 + e1 + e2 + e3 := i64_ok _ (by omega)
  have a4 : IntKind.i64.wrap (e0 + e1 + e2 + e3 + e4) = e0 + e1 + e2 + e3 + e4 := i64_ok _ (by omega)
  have a5 : IntKind.i64.wrap (e0 + e1 + e2 + e3 + e4 + e5) = e0 + e1 + e2 + e3 + e4 + e5 := i64_ok _ (by omega)
  refine i_callA (fs := []) (cs := []) ?_ ?_ (num2_ok e0 _) ?_
  · rfl
  · simp -implicitDefEqProofs only [go_sem, Nat.reduceEqDiff, Nat.reduceAdd, Nat.reduceLeDiff, ↓reduceIte, reduceCtorEq, Int.reduceBEq, Int.reduceBNe, Int.reduceLT, Int.reduceLE, Int.reduceGT, Int.reduceGE, Int.reduceNeg, Int.reduceAdd, Int.reduceSub, Nat.reduceMul, Nat.reduceLT, Int.reduceToNat]
  rintro x H3 ⟨rfl, hHH⟩
  have hHH := hHH.symm
  subst hHH
  simp -implicitDefEqProofs only [go_sem, Nat.reduceEqDiff, Nat.reduceAdd, Nat.reduceLeDiff, ↓reduceIte, reduceCtorEq, Int.reduceBEq, Int.reduceBNe, Int.reduceLT, Int.reduceLE, Int.reduceGT, Int.reduceGE, Int.reduceNeg, Int.reduceAdd, Int.reduceSub, Nat.reduceMul, Nat.reduceLT, Int.reduceToNat, p1, p2, p3, p4, q1, q2, q3, q4, r1, r2, r3, r4, at3.1, Nat.ne_of_lt at3.2, at4.1, Nat.ne_of_lt at4.2, at5.1, Nat.ne_of_lt at5.2, at9.1, Nat.ne_of_lt at9.2, at11.1, Nat.ne_of_lt at11.2, at13.1, Nat.ne_of_lt at13.2, at15.1, Nat.ne_of_lt at15.2, at17.1, Nat.ne_of_lt at17.2, at19.1, Nat.ne_of_lt at19.2, at21.1, Nat.ne_of_lt at21.2, at23.1, Nat.ne_of_lt at23.2, k1up, k2up, k3up, k4up, k1bk, k2bk, k3bk, k4bk, k1ov, k2ov, k3ov, k4ov, k1ra, k2ra, k3ra, k4ra, k1rb, k2rb, k3rb, k4rb, k1rc, k2rc, k3rc, k4rc, k1rd, k2rd, k3rd, k4rd, k1rg, k2rg, k3rg, k4rg, a1, a2, a3, a4, a5]
  refine i_callA (fs := []) (cs := []) ?_ ?_ (num2_ok e1 _) ?_
  · rfl
  · simp -implicitDefEqProofs only [go_sem, Nat.reduceEqDiff, Nat.reduceAdd, Nat.reduceLeDiff, ↓reduceIte, reduceCtorEq, Int.reduceBEq, Int.reduceBNe, Int.reduceLT, Int.reduceLE, Int.reduceGT, Int.reduceGE, Int.reduceNeg, Int.reduceAdd, Int.reduceSub, Nat.reduceMul, Nat.reduceLT, Int.reduceToNat]
  rintro x H3 ⟨rfl, hHH⟩
  have hHH := hHH.symm
  subst hHH
  simp -implicitDefEqProofs only [go_sem, Nat.reduceEqDiff, Nat.reduceAdd, Nat.reduceLeDiff, ↓reduceIte, reduceCtorEq, Int.reduceBEq, Int.reduceBNe, Int.reduceLT, Int.reduceLE, Int.reduceGT, Int.reduceGE, Int.reduceNeg, Int.reduceAdd, Int.reduceSub, Nat.reduceMul, Nat.reduceLT, Int.reduceToNat, p1, p2, p3, p4, q1, q2, q3, q4, r1, r2, r3, r4, at3.1, Nat.ne_of_lt at3.2, at4.1, Nat.ne_of_lt at4.2, at5.1, Nat.ne_of_lt at5.2, at9.1, Nat.ne_of_lt at9.2, at11.1, Nat.ne_of_lt at11.2, at13.1, Nat.ne_of_lt at13.2, at15.1, Nat.ne_of_lt at15.2, at17.1, Nat.ne_of_lt at17.2, at19.1, Nat.ne_of_lt at19.2, at21.1, Nat.ne_of_lt at21.2, at23.1, Nat.ne_of_lt at23.2, k1up, k2up, k3up, k4up, k1bk, k2bk, k3bk, k4bk, k1ov, k2ov, k3ov, k4ov, k1ra, k2ra, k3ra, k4ra, k1rb, k2rb, k3rb, k4rb, k1rc, k2rc, k3rc, k4rc, k1rd, k2rd, k3rd, k4rd, k1rg, k2rg, k3rg, k4rg, a1, a2, a3, a4, a5]
  refine i_callA (fs := []) (cs := []) ?_ ?_ (num2_ok e2 _) ?_
  · rfl
  · simp -implicitDefEqProofs only [go_sem, Nat.reduceEqDiff, Nat.reduceAdd, Nat.reduceLeDiff, ↓reduceIte, reduceCtorEq, Int.reduceBEq, Int.reduceBNe, Int.reduceLT, Int.reduceLE, Int.reduceGT, Int.reduceGE, Int.reduceNeg, Int.reduceAdd, Int.reduceSub, Nat.reduceMul, Nat.reduceLT, Int.reduceToNat]
  rintro x H3 ⟨rfl, hHH⟩
  have hHH := hHH.symm
  subst hHH
  simp -implicitDefEqProofs only [go_sem, Nat.reduceEqDiff, Nat.reduceAdd, Nat.reduceLeDiff, ↓reduceIte, reduceCtorEq, Int.reduceBEq, Int.reduceBNe, Int.reduceLT, Int.reduceLE, Int.reduceGT, Int.reduceGE, Int.reduceNeg, Int.reduceAdd, Int.reduceSub, Nat.reduceMul, Nat.reduceLT, Int.reduceToNat, p1, p2, p3, p4, q1, q2, q3, q4, r1, r2, r3, r4, at3.1, Nat.ne_of_lt at3.2, at4.1, Nat.ne_of_lt at4.2, at5.1, Nat.ne_of_lt at5.2, at9.1, Nat.ne_of_lt at9.2, at11.1, Nat.ne_of_lt at11.2, at13.1, Nat.ne_of_lt at13.2, at15.1, Nat.ne_of_lt at15.2, at17.1, Nat.ne_of_lt at17.2, at19.1, Nat.ne_of_lt at19.2, at21.1, Nat.ne_of_lt at21.2, at23.1, Nat.ne_of_lt at23.2, k1up, k2up, k3up, k4up, k1bk, k2bk, k3bk, k4bk, k1ov, k2ov, k3ov, k4ov, k1ra, k2ra, k3ra, k4ra, k1rb, k2rb, k3rb, k4rb, k1rc, k2rc, k3rc, k4rc, k1rd, k2rd, k3rd, k4rd, k1rg, k2rg, k3rg, k4rg, a1, a2, a3, a4, a5]
  refine i_callA (fs := []) (cs := []) ?_ ?_ (num2_ok e3 _) ?_
  · rfl
  · simp -implicitDefEqProofs only [go_sem, Nat.reduceEqDiff, Nat.reduceAdd, Nat.reduceLeDiff, ↓reduceIte, reduceCtorEq, Int.reduceBEq, Int.reduceBNe, Int.reduceLT, Int.reduceLE, Int.reduceGT, Int.reduceGE, Int.reduceNeg, Int.reduceAdd, Int.reduceSub, Nat.reduceMul, Nat.reduceLT, Int.reduceToNat]
  rintro x H3 ⟨rfl, hHH⟩
  have hHH := hHH.symm
  subst hHH
  simp -implicitDefEqProofs only [go_sem, Nat.reduceEqDiff, Nat.reduceAdd, Nat.reduceLeDiff, ↓reduceIte, reduceCtorEq, Int.reduceBEq, Int.reduceBNe, Int.reduceLT, Int.reduceLE, Int.reduceGT, Int.reduceGE, Int.reduceNeg, Int.reduceAdd, Int.reduceSub, Nat.reduceMul, Nat.reduceLT, Int.reduceToNat, p1, p2, p3, p4, q1, q2, q3, q4, r1, r2, r3, r4, at3.1, Nat.ne_of_lt at3.2, at4.1, Nat.ne_of_lt at4.2, at5.1, Nat.ne_of_lt at5.2, at9.1, Nat.ne_of_lt at9.2, at11.1, Nat.ne_of_lt at11.2, at13.1, Nat.ne_of_lt at13.2, at15.1, Nat.ne_of_lt at15.2, at17.1, Nat.ne_of_lt at17.2, at19.1, Nat.ne_of_lt at19.2, at21.1, Nat.ne_of_lt at21.2, at23.1, Nat.ne_of_lt at23.2, k1up, k2up, k3up, k4up, k1bk, k2bk, k3bk, k4bk, k1ov, k2ov, k3ov, k4ov, k1ra, k2ra, k3ra, k4ra, k1rb, k2rb, k3rb, k4rb, k1rc, k2rc, k3rc, k4rc, k1rd, k2rd, k3rd, k4rd, k1rg, k2rg, k3rg, k4rg, a1, a2, a3, a4, a5]
  refine i_callA (fs := []) (cs := []) ?_ ?_ (num2_ok e4 _) ?_
  · rfl
  · simp -implicitDefEqProofs only [go_sem, Nat.reduceEqDiff, Nat.reduceAdd, Nat.reduceLeDiff, ↓reduceIte, reduceCtorEq, Int.reduceBEq, Int.reduceBNe, Int.reduceLT, Int.reduceLE, Int.reduceGT, Int.reduceGE, Int.reduceNeg, Int.reduceAdd, Int.reduceSub, Nat.reduceMul, Nat.reduceLT, Int.reduceToNat]
  rintro x H3 ⟨rfl, hHH⟩
  have hHH := hHH.symm
  subst hHH
  simp -implicitDefEqProofs only [go_sem, Nat.reduceEqDiff, Nat.reduceAdd, Nat.reduceLeDiff, ↓reduceIte, reduceCtorEq, Int.reduceBEq, Int.reduceBNe, Int.reduceLT, Int.reduceLE, Int.reduceGT, Int.reduceGE, Int.reduceNeg, Int.reduceAdd, Int.reduceSub, Nat.reduceMul, Nat.reduceLT, Int.reduceToNat, p1, p2, p3, p4, q1, q2, q3, q4, r1, r2, r3, r4, at3.1, Nat.ne_of_lt at3.2, at4.1, Nat.ne_of_lt at4.2, at5.1, Nat.ne_of_lt at5.2, at9.1, Nat.ne_of_lt at9.2, at11.1, Nat.ne_of_lt at11.2, at13.1, Nat.ne_of_lt at13.2, at15.1, Nat.ne_of_lt at15.2, at17.1, Nat.ne_of_lt at17.2, at19.1, Nat.ne_of_lt at19.2, at21.1, Nat.ne_of_lt at21.2, at23.1, Nat.ne_of_lt at23.2, k1up, k2up, k3up, k4up, k1bk, k2bk, k3bk, k4bk, k1ov, k2ov, k3ov, k4ov, k1ra, k2ra, k3ra, k4ra, k1rb, k2rb, k3rb, k4rb, k1rc, k2rc, k3rc, k4rc, k1rd, k2rd, k3rd, k4rd, k1rg, k2rg, k3rg, k4rg, a1, a2, a3, a4, a5]
  refine i_callA (fs := []) (cs := []) ?_ ?_ (num2_ok e5 _) ?_
  · rfl
  · simp -implicitDefEqProofs only [go_sem, Nat.reduceEqDiff, Nat.reduceAdd, Nat.reduceLeDiff, ↓reduceIte, reduceCtorEq, Int.reduceBEq, Int.reduceBNe, Int.reduceLT, Int.reduceLE, Int.reduceGT, Int.reduceGE, Int.reduceNeg, Int.reduceAdd, Int.reduceSub, Nat.reduceMul, Nat.reduceLT, Int.reduceToNat]
  rintro x H3 ⟨rfl, hHH⟩
  have hHH := hHH.symm
  subst hHH
  by_cases hz : e0 + e1 + e2 + e3 + e4 + e5 = 0
  case neg =>
    have hz' := bne' hz
    simp -implicitDefEqProofs only [go_sem, Nat.reduceEqDiff, Nat.reduceAdd, Nat.reduceLeDiff, ↓reduceIte, reduceCtorEq, Int.reduceBEq, Int.reduceBNe, Int.reduceLT, Int.reduceLE, Int.reduceGT, Int.reduceGE, Int.reduceNeg, Int.reduceAdd, Int.reduceSub, Nat.reduceMul, Nat.reduceLT, Int.reduceToNat, p1, p2, p3, p4, q1, q2, q3, q4, r1, r2, r3, r4, at3.1, Nat.ne_of_lt at3.2, at4.1, Nat.ne_of_lt at4.2, at5.1, Nat.ne_of_lt at5.2, at9.1, Nat.ne_of_lt at9.2, at11.1, Nat.ne_of_lt at11.2, at13.1, Nat.ne_of_lt at13.2, at15.1, Nat.ne_of_lt at15.2, at17.1, Nat.ne_of_lt at17.2, at19.1, Nat.ne_of_lt at19.2, at21.1, Nat.ne_of_lt at21.2, at23.1, Nat.ne_of_lt at23.2, k1up, k2up, k3up, k4up, k1bk, k2bk, k3bk, k4bk, k1ov, k2ov, k3ov, k4ov, k1ra, k2ra, k3ra, k4ra, k1rb, k2rb, k3rb, k4rb, k1rc, k2rc, k3rc, k4rc, k1rd, k2rd, k3rd, k4rd, k1rg, k2rg, k3rg, k4rg, a1, a2, a3, a4, a5, hz']
    exact hE
  have hz' : (e0 + e1 + e2 + e3 + e4 + e5 == 0) = true := by rw [hz]; rfl
  simp -implicitDefEqProofs only [go_sem, Nat.reduceEqDiff, Nat.reduceAdd, Nat.reduceLeDiff, ↓reduceIte, reduceCtorEq, Int.reduceBEq, Int.reduceBNe, Int.reduceLT, Int.reduceLE, Int.reduceGT, Int.reduceGE, Int.reduceNeg, Int.reduceAdd, Int.reduceSub, Nat.reduceMul, Nat.reduceLT, Int.reduceToNat, p1, p2, p3, p4, q1, q2, q3, q4, r1, r2, r3, r4, at3.1, Nat.ne_of_lt at3.2, at4.1, Nat.ne_of_lt at4.2, at5.1, Nat.ne_of_lt at5.2, at9.1, Nat.ne_of_lt at9.2, at11.1, Nat.ne_of_lt at11.2, at13.1, Nat.ne_of_lt at13.2, at15.1, Nat.ne_of_lt at15.2, at17.1, Nat.ne_of_lt at17.2, at19.1, Nat.ne_of_lt at19.2, at21.1, Nat.ne_of_lt at21.2, at23.1, Nat.ne_of_lt at23.2, k1up, k2up, k3up, k4up, k1bk, k2bk, k3bk, k4bk, k1ov, k2ov, k3ov, k4ov, k1ra, k2ra, k3ra, k4ra, k1rb, k2rb, k3rb, k4rb, k1rc, k2rc, k3rc, k4rc, k1rd, k2rd, k3rd, k4rd, k1rg, k2rg, k3rg, k4rg, a1, a2, a3, a4, a5, hz']
  refine i_callA (fs := []) (cs := []) ?_ ?_ (same_ok rb rg hrb.1 hrg.1 (tmb_fine hrb.1) (tmb_fine hrg.1) _ _ hcrb.1 hcrg.1 _) ?_
  · rfl
  · simp -implicitDefEqProofs only [go_sem, Nat.reduceEqDiff, Nat.reduceAdd, Nat.reduceLeDiff, ↓reduceIte, reduceCtorEq, Int.reduceBEq, Int.reduceBNe, Int.reduceLT, Int.reduceLE, Int.reduceGT, Int.reduceGE, Int.reduceNeg, Int.reduceAdd, Int.reduceSub, Nat.reduceMul, Nat.reduceLT, Int.reduceToNat]
  rintro x H3 ⟨rfl, hHH⟩
  have hHH := hHH.symm
  subst hHH
  have hs2 : sameF canF rb rg = true := by
    obtain ⟨_, g0⟩ := hov.2.1 (by omega)
    obtain ⟨_, g1⟩ := hra.2.1 (by omega)
    obtain ⟨c2, g2⟩ := hrb.2.1 (by omega)
    obtain ⟨_, g3⟩ := hrc.2.1 (by omega)
    obtain ⟨_, g4⟩ := hrd.2.1 (by omega)
    obtain ⟨_, g5⟩ := hrg.2.1 (by omega)
    have heq : rb = rg := by rw [g2, g5, g1, g3, g4, g0]; exact put_put s u 0 (by omega) t
    unfold sameF
    rw [← heq, if_pos ⟨c2, c2⟩]
    exact sameT_self rb
  rw [hs2]
  simp -implicitDefEqProofs only [go_sem, Nat.reduceEqDiff, Nat.reduceAdd, Nat.reduceLeDiff, ↓reduceIte, reduceCtorEq, Int.reduceBEq, Int.reduceBNe, Int.reduceLT, Int.reduceLE, Int.reduceGT, Int.reduceGE, Int.reduceNeg, Int.reduceAdd, Int.reduceSub, Nat.reduceMul, Nat.reduceLT, Int.reduceToNat, p1, p2, p3, p4, q1, q2, q3, q4, r1, r2, r3, r4, at3.1, Nat.ne_of_lt at3.2, at4.1, Nat.ne_of_lt at4.2, at5.1, Nat.ne_of_lt at5.2, at9.1, Nat.ne_of_lt at9.2, at11.1, Nat.ne_of_lt at11.2, at13.1, Nat.ne_of_lt at13.2, at15.1, Nat.ne_of_lt at15.2, at17.1, Nat.ne_of_lt at17.2, at19.1, Nat.ne_of_lt at19.2, at21.1, Nat.ne_of_lt at21.2, at23.1, Nat.ne_of_lt at23.2, k1up, k2up, k3up, k4up, k1bk, k2bk, k3bk, k4bk, k1ov, k2ov, k3ov, k4ov, k1ra, k2ra, k3ra, k4ra, k1rb, k2rb, k3rb, k4rb, k1rc, k2rc, k3rc, k4rc, k1rd, k2rd, k3rd, k4rd, k1rg, k2rg, k3rg, k4rg]
  exact hE
end Go.Proofs.Ytooaiddfokbffaa.E

/- The row TermLaws: whatever the input, the law answers true. Conditions: none. -/
set_option linter.unusedVariables false
set_option linter.unusedSimpArgs false
namespace Go.Proofs.Ytooaiddfokbffaa.termLaws
open Go.ChangeShapes Go.WideShapes Go.ChangeAt Go.RowKit
open Go.ChangeMaps (open_string shut_string)
set_option maxRecDepth 100000 in
theorem lifted (os : Os) (started : os.Started) (H : Type) (enc : TypeId × Value → H) :
    ReturnsInHanded {} Try.checked os 9 .any (Rows.termLawsSpec.pre6 enc Try.prog Try.f9 Rows.termLawsRow.domain false) (Rows.termLawsSpec.post enc Try.prog Try.f9 false true false false) := by
  refine returnsInHanded_of_change_sized (C := Try.checked) E.own started (by kernel_rfl) Try.func9
    (ChangeSpec.witness6 (enc := enc) (C := Try.checked) false ⟨#[], #[.agg #[.int .i64 0, .int .i64 0, .bool false, .string ByteArray.empty, .slice none 0 0, .slice none 0 0], .agg #[.int .i64 0, .int .i64 0, .bool false, .string ByteArray.empty, .slice none 0 0, .slice none 0 0], .agg #[.int .i64 0, .int .i64 0, .bool false, .string ByteArray.empty, .slice none 0 0, .slice none 0 0]], []⟩ 8 (by kernel_rfl) (by kernel_rfl) (by kernel_rfl) (by kernel_rfl)) ?_
  intro W base args ds gs before hval0 hW hcnd hsz0 _
  have hsz : (DataW.weightsEach Try.prog (Try.f9.params.toList ++ Rows.termLawsSpec.plain.varTypes Try.prog) (ds ++ gs)).all (· ≤ reachBytes) = true := hsz0
  have hval : ∀ (j : Nat) t v, Try.f9.params[j]? = some t → args[j]? = some v → Value.okWide Try.prog W .any base t v := hval0
  have hW' := hW
  obtain ⟨p, q, hA0, hV, rfl, hfz, hnd⟩ := hW
  have hA : DataW.TrodAll enc Try.prog W 0 (fun _ => true) true Try.f9.params.toList args.toList ds p := hA0
  rw [Try.params9] at hA hval hsz
  obtain ⟨v0, vs0, d0, ds0, p0, q0, hargs, rfl, rfl, h0, r0⟩ := trodAll_cons hA
  obtain ⟨v1, vs1, d1, ds1, p1, q1, rfl, rfl, rfl, h1, r1⟩ := trodAll_cons r0
  obtain ⟨v2, vs2, d2, ds2, p2, q2, rfl, rfl, rfl, h2, r2⟩ := trodAll_cons r1
  obtain ⟨rfl, rfl, rfl⟩ := trodAll_nil r2
  obtain rfl : args = #[v0, v1, v2] := by cases args; simp_all
  obtain ⟨rfl, rfl⟩ := trodVars_none hV
  have k0 := h0
  have lt0 : ∀ x ∈ p0, x.block < W.heap.size := by obtain ⟨m, hm⟩ := k0; exact DataW.trod_lt m _ _ _ hm
  obtain ⟨t0, y0, b0, c0, o0, w0⟩ := E.term_arg h0 (E.wt_arg hsz (j := 0) (t := 25) rfl rfl)
  have k1 := h1
  have lt1 : ∀ x ∈ p1, x.block < W.heap.size := by obtain ⟨m, hm⟩ := k1; exact DataW.trod_lt m _ _ _ hm
  obtain ⟨t1, y1, b1, c1, o1, w1⟩ := E.term_arg h1 (E.wt_arg hsz (j := 1) (t := 25) rfl rfl)
  have k2 := h2
  have lt2 : ∀ x ∈ p2, x.block < W.heap.size := by obtain ⟨m, hm⟩ := k2; exact DataW.trod_lt m _ _ _ hm
  obtain ⟨t2, y2, b2, c2, o2, w2⟩ := E.term_arg h2 (E.wt_arg hsz (j := 2) (t := 25) rfl rfl)
  clear hA0 hval0 hsz0 hsz
  refine (E.law_walk (E.law_laws t0 b0 y0 c0 o0 t1 b1 y1 c1 o1 t2 b2 y2 c2 o2 E.AHeap.empty) (E.LRel.cons w0 (E.LRel.cons w1 (E.LRel.cons w2 E.lrel_nil)))).mono fun e W' ⟨he, bel⟩ => ?_
  subst he
  exact ⟨_, rfl, _, _, _, [], _, [], hW', trodAll_mk1 (shut_bool Try.underlying4 _), (trodAll_cons_mk (Below.trod E.laidOut (by kernel_rfl) (of_decide_eq_true (by kernel_rfl)) k0 bel lt0) (trodAll_cons_mk (Below.trod E.laidOut (by kernel_rfl) (of_decide_eq_true (by kernel_rfl)) k1 bel lt1) (trodAll_cons_mk (Below.trod E.laidOut (by kernel_rfl) (of_decide_eq_true (by kernel_rfl)) k2 bel lt2) trodAll_mk0))), rfl, bel.frame _, fun h => by cases h⟩

theorem over : Rows.termLawsRow.holds Try.pinned (OpenSpec.ofChange Rows.termLawsSpec) :=
  OpenClaim.holds_of_wide 9 Try.f9 rfl rfl rfl rfl rfl rfl rfl ⟨rfl, rfl, rfl, rfl, rfl⟩ rfl rfl rfl rfl rfl (by kernel_rfl) Try.func9 (by kernel_rfl)
    (of_decide_eq_true (by kernel_rfl)) (by unfold Func.isWrapper; first | (rw [if_pos (by decide +kernel)]; kernel_rfl) | (rw [if_neg (by decide +kernel)]; exact ⟨rfl, rfl⟩))
    (fun os started H enc _ => lifted os started H enc)
theorem proved : Rows.TermLawsSaid := over
end Go.Proofs.Ytooaiddfokbffaa.termLaws
namespace Go.Proofs.Ytooaiddfokbffaa
/-- The row, under a short name, for the claim. -/
theorem termLaws_holds : Rows.TermLawsSaid := termLaws.proved
#print axioms termLaws_holds
end Go.Proofs.Ytooaiddfokbffaa
