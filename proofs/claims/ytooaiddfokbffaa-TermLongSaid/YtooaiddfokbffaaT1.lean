/- Terms, as trees and as rows of cells. Conditions: none. -/
import Derived.Test.YtooaiddfokbffaaE23
import Derived.IntWalk
set_option linter.unusedVariables false
set_option linter.unusedSimpArgs false
namespace Go.Proofs.Ytooaiddfokbffaa.E
open Go

structure Lv where
  n : Int
  vars : List (Int × Int)

inductive Tm where
  | mk (form n : Int) (hid : Bool) (name : ByteArray) (lv : List Lv) (kids : List Tm)

def Tm.form : Tm → Int | .mk f _ _ _ _ _ => f
def Tm.n : Tm → Int | .mk _ n _ _ _ _ => n
def Tm.hid : Tm → Bool | .mk _ _ h _ _ _ => h
def Tm.name : Tm → ByteArray | .mk _ _ _ s _ _ => s
def Tm.lv : Tm → List Lv | .mk _ _ _ _ l _ => l
def Tm.kids : Tm → List Tm | .mk _ _ _ _ _ k => k

abbrev aint (n : Int) : AV := .v (.int .i64 n)
abbrev abl (b : Bool) : AV := .v (.bool b)

/-- A slice's value, read only, of so many elements, with these cells. -/
def SlR (len : Nat) (x : AV) (cs : List AV) : Prop := (len = 0 ∧ x = .v (.slice none 0 0)) ∨ ∃ lo ex, x = .ro len lo ex cs ∧ len ≤ lo

def VarsR : List (Int × Int) → List AV → Prop
  | [], _ => True
  | (a, b) :: r, cs => cs.take 2 = [aint a, aint b] ∧ VarsR r (cs.drop 2)

def LvsR : List Lv → List AV → Prop
  | [], _ => True
  | l :: r, cs => (∃ vx vs, cs.take 2 = [aint l.n, vx] ∧ SlR l.vars.length vx vs ∧ VarsR l.vars vs) ∧ LvsR r (cs.drop 2)

mutual
def TmR : Tm → List AV → Prop
  | .mk f n h s lv ks, cells => ∃ lx kx ls cs, cells = [aint f, aint n, abl h, .v (.string s), lx, kx] ∧ SlR lv.length lx ls ∧ LvsR lv ls ∧ SlR ks.length kx cs ∧ KsR ks cs
def KsR : List Tm → List AV → Prop
  | [], _ => True
  | k :: ks, cs => TmR k (cs.take 6) ∧ KsR ks (cs.drop 6)
end

theorem TmR.len {t : Tm} {cells : List AV} (h : TmR t cells) : cells.length = 6 := by
  cases t
  simp only [TmR] at h
  obtain ⟨_, _, _, _, rfl, _⟩ := h
  rfl

theorem KsR.at : ∀ {ks : List Tm} {cs : List AV}, KsR ks cs → ∀ {i : Nat} {k : Tm}, ks[i]? = some k → TmR k ((cs.drop (6 * i)).take 6) ∧ 6 * i + 6 ≤ cs.length
  | [], _, _, i, k, hk => by simp at hk
  | k0 :: ks, cs, h, i, k, hk => by
    simp only [KsR] at h
    cases i with
    | zero =>
      simp only [List.getElem?_cons_zero, Option.some.injEq] at hk
      subst hk
      have := h.1.len
      rw [List.length_take] at this
      exact ⟨by simpa using h.1, by omega⟩
    | succ i =>
      obtain ⟨h1, h2⟩ := KsR.at h.2 (i := i) (k := k) (by simpa using hk)
      rw [List.drop_drop] at h1
      rw [List.length_drop] at h2
      exact ⟨by rw [show 6 * (i + 1) = 6 + 6 * i by omega]; exact h1, by omega⟩

theorem alen_str (H : AHeap) (s : ByteArray) : alen H .str (.v (.string s)) = some s.size := rfl
theorem alen_ro (H : AHeap) (n lo : Nat) (ex : Bool) (cs : List AV) : alen H .slice (.ro n lo ex cs) = some n := rfl
theorem alen_slc (H : AHeap) (b off es n lo : Nat) (ex : Bool) : alen H .slice (.slc b off es n lo ex) = some n := rfl
theorem alen_nil (H : AHeap) (c : Nat) : alen H .slice (.v (.slice none 0 c)) = some 0 := rfl

theorem SlR.alen {n : Nat} {x : AV} {cs : List AV} (h : SlR n x cs) (H : AHeap) : alen H .slice x = some n := by
  rcases h with ⟨rfl, rfl⟩ | ⟨lo, ex, rfl, _⟩ <;> rfl
theorem SlR.one {n : Nat} {x : AV} {cs : List AV} (h : SlR n x cs) : x.one = true := by
  rcases h with ⟨rfl, rfl⟩ | ⟨lo, ex, rfl, _⟩ <;> rfl
theorem SlR.cells {n : Nat} {x : AV} {cs : List AV} (h : SlR n x cs) : x.acells = [x] := by
  rcases h with ⟨rfl, rfl⟩ | ⟨lo, ex, rfl, _⟩ <;> rfl
theorem SlR.aix {n : Nat} {x : AV} {cs : List AV} (h : SlR n x cs) (es : Nat) {i : Nat} (hi : i < n) : aix es (i : Int) x = some (.rop cs (i * es)) := by
  rcases h with ⟨rfl, rfl⟩ | ⟨lo, ex, rfl, _⟩
  · omega
  · simp only [E.aix]
    rw [if_pos (by omega)]
    simp
theorem KsR.load {ks : List Tm} {cs : List AV} (h : KsR ks cs) {i : Nat} {k : Tm} (hk : ks[i]? = some k) : ∃ cells, TmR k cells ∧ i * 6 + 6 ≤ cs.length ∧ (cs.drop (i * 6)).take 6 = cells := by
  obtain ⟨h1, h2⟩ := h.at hk
  exact ⟨_, h1, by omega, by rw [show i * 6 = 6 * i by omega]⟩

theorem TmR.six {t : Tm} {cells : List AV} (h : TmR t cells) : ∃ lx kx ls cs, cells = [aint t.form, aint t.n, abl t.hid, .v (.string t.name), lx, kx] ∧ SlR t.lv.length lx ls ∧ LvsR t.lv ls ∧ SlR t.kids.length kx cs ∧ KsR t.kids cs := by
  cases t
  simp only [TmR] at h
  exact h

theorem LvsR.at : ∀ {ls : List Lv} {cs : List AV}, LvsR ls cs → ∀ {i : Nat} {l : Lv}, ls[i]? = some l → ∃ vx vs, i * 2 + 2 ≤ cs.length ∧ (cs.drop (i * 2)).take 2 = [aint l.n, vx] ∧ SlR l.vars.length vx vs ∧ VarsR l.vars vs
  | [], _, _, i, l, hk => by simp at hk
  | l0 :: ls, cs, h, i, l, hk => by
    simp only [LvsR] at h
    cases i with
    | zero =>
      simp only [List.getElem?_cons_zero, Option.some.injEq] at hk
      subst hk
      obtain ⟨⟨vx, vs, h1, h2, h3⟩, _⟩ := h
      have := congrArg List.length h1
      rw [List.length_take] at this
      simp at this
      exact ⟨vx, vs, by omega, by simpa using h1, h2, h3⟩
    | succ i =>
      obtain ⟨vx, vs, h1, h2, h3, h4⟩ := LvsR.at h.2 (i := i) (l := l) (by simpa using hk)
      rw [List.drop_drop] at h2
      rw [List.length_drop] at h1
      exact ⟨vx, vs, by omega, by rw [show (i + 1) * 2 = 2 + i * 2 by omega]; exact h2, h3, h4⟩

mutual
def Tm.All (p : Tm → Prop) : Tm → Prop
  | .mk f n h s lv ks => p (.mk f n h s lv ks) ∧ Tm.AllL p ks
def Tm.AllL (p : Tm → Prop) : List Tm → Prop
  | [] => True
  | k :: ks => Tm.All p k ∧ Tm.AllL p ks
end
theorem Tm.AllL.mem {p : Tm → Prop} : ∀ {ks : List Tm}, Tm.AllL p ks → ∀ k ∈ ks, Tm.All p k
  | [], _, k, hk => by cases hk
  | k0 :: ks, h, k, hk => by
    simp only [Tm.AllL] at h
    rcases List.mem_cons.1 hk with hk | hk
    · rw [hk]; exact h.1
    · exact Tm.AllL.mem h.2 k hk

/-! ### Is a term not too long, nor too high? -/
mutual
def fitT (c high : Int) : Tm → Bool × Int
  | .mk _ _ _ _ _ ks => if c + 1 > 20000 ∨ high > 500 then (false, c + 1) else fitK (c + 1) (high + 1) ks
def fitK (c high : Int) : List Tm → Bool × Int
  | [] => (true, c)
  | k :: ks => if (fitT c high k).1 = true then fitK (fitT c high k).2 high ks else (false, (fitT c high k).2)
end

end Go.Proofs.Ytooaiddfokbffaa.E
