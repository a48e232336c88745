/- Which operations are taken, and that the model's step follows the abstract one. Conditions: none. -/
import Derived.Test.YtooaiddfokbffaaE8
set_option linter.unusedVariables false
set_option linter.unusedSimpArgs false
namespace Go.Proofs.Ytooaiddfokbffaa.E
open Go

def compParts (f : Nat → Option (Nat × Nat)) : List (Nat × Operand) → Option (List (Nat × Nat × AArg))
  | [] => some []
  | (i, x) :: r => match f i, carg x, compParts f r with
    | some (o, n), some y, some r' => some ((o, n, y) :: r')
    | _, _, _ => none

def compArgs : List Operand → Option (List AArg)
  | [] => some []
  | x :: r => match carg x, compArgs r with
    | some y, some r' => some (y :: r')
    | _, _ => none

def fieldPl (P : Program) (fs : Array Field) (i : Nat) : Option (Nat × Nat) :=
  match fs[i]? with
  | some fd => (tSize P fd.type).map fun n => (fd.offset, n)
  | none => none

def compBin (P : Program) (op : BinOp) (t : TypeId) (x y : Operand) : Option AOp :=
  match P.underlying t, carg x, carg y with
  | some (.int _), some a, some b => some (.ibin op a b)
  | some .string, some a, some b => some (.sbin op a b)
  | some .bool, some a, some b => match op with
    | .eql => some (.bbin false a b)
    | .neq => some (.bbin true a b)
    | _ => none
  | some (.struct fs), some a, some b => match flatF P 0 fs.toList, op with
    | some ks, .eql => if P.stoodInHeld t = false ∧ P.eqGuardType P.depth t = false then some (.ebin false ks a b) else none
    | some ks, .neq => if P.stoodInHeld t = false ∧ P.eqGuardType P.depth t = false then some (.ebin true ks a b) else none
    | _, _ => none
  | some d, some a, _ => match nilD d y, op with
    | some k, .eql => some (.nbin false k a)
    | some k, .neq => some (.nbin true k a)
    | _, _ => none
  | _, _, _ => none

def compCall (P : Program) (c : Call) : Option AOp :=
  match c.callee, c.args.toList, c.argTypes.toList with
  | .builtin .len, [x], [t] => match P.underlying t, carg x with
    | some .string, some a => some (.len .str a)
    | some (.slice _), some a => some (.len .slice a)
    | some (.map _ _), some a => some (.len .map a)
    | _, _ => none
  | .builtin .append, [s, x], [t, t'] => match P.underlying t, carg s, carg x with
    | some (.slice el), some a, some b => match P.info? el, tZero P el with
      | some i, some z => if t = t' ∧ z.length = i.size then some (.append i.size i.bytes a b) else none
      | _, _ => none
    | _, _, _ => none
  | .builtin .min, [x, y], _ => match carg x, carg y with
    | some a, some b => some (.mm false a b)
    | _, _ => none
  | .builtin .max, [x, y], _ => match carg x, carg y with
    | some a, some b => some (.mm true a b)
    | _, _ => none
  | _, _, _ => none

def compOp (P : Program) (o : Op) : Option AOp :=
  match o with
  | .move x => (carg x).map .move
  | .assign x => (carg x).map .move
  | .pick c a b => match carg c, carg a, carg b with
    | some c, some a, some b => some (.pick c a b)
    | _, _, _ => none
  | .alloc t => (tZero P t).map .alloc
  | .box _ x => (carg x).map .box
  | .build t parts => match P.underlying t, tZero P t with
    | some (.struct fs), some z => if fs.all (fun f => (P.info? f.type).isSome) then (compParts (fieldPl P fs) parts.toList).map (.build z) else none
    | some (.array _ el), some z => match tSize P el with
      | some n => (compParts (fun i => some (i * n, n)) parts.toList).map (.build z)
      | none => none
    | _, _ => none
  | .buildSlice t n parts => match P.underlying t with
    | some (.slice el) => match tSize P el, tZero P el with
      | some es, some z => if n * es ≤ 16777216 ∧ z.length = es ∧ 0 < es then (compParts (fun i => some (i * es, es)) parts.toList).map (.buildS es n (List.replicate n z).flatten) else none
      | _, _ => none
    | _ => none
  | .load t a => match P.underlying t, tSize P t with
    | some d, some n => (carg a).map (.load (aggD d) n)
    | _, _ => none
  | .store t a x => match tSize P t, carg a, carg x with
    | some n, some a, some x => some (.store n a x)
    | _, _, _ => none
  | .nilCheck x => (carg x).map .nilchk
  | .binOp op t x y _ => compBin P op t x y
  | .unOp .not _ x => (carg x).map .not
  | .unOp .neg _ x => (carg x).map .neg
  | .convert s d x => match P.underlying s, P.underlying d with
    | some _, some (.int k) => (carg x).map (.conv k)
    | _, _ => none
  | .makeFunc f first captured => match compArgs first.toList, compArgs captured.toList with
    | some a, some b => some (.func f a b)
    | _, _ => none
  | .makeSlice t l c => match P.underlying t with
    | some (.slice el) => match P.info? el, tZero P el with
      | some i, some z => if i.size = z.length then (match carg l, carg c with
        | some l, some c => some (.mks z i.bytes l c)
        | _, _ => none) else none
      | _, _ => none
    | _ => none
  | .slice t x lo hi mx => match P.underlying t, carg x, cargO lo, cargO hi, cargO mx with
    | some (.slice el), some a, some l, some h, some m => (tSize P el).map fun es => .slice es a l h m
    | some .string, some a, some l, some h, some none => some (.sslice a l h)
    | _, _, _, _, _ => none
  | .fieldAddr t x f => match P.underlying t with
    | some (.struct fs) => match fs[f]? with
      | some fd => match tSize P fd.type with
        | some (_ + 1) => (carg x).map (.fld fd.offset)
        | _ => none
      | none => none
    | _ => none
  | .field t x f => match P.underlying t with
    | some (.struct fs) => match fs[f]? with
      | some fd => match P.underlying fd.type, tSize P fd.type with
        | some d, some n => (carg x).map (.part (aggD d) fd.offset n)
        | _, _ => none
      | none => none
    | _ => none
  | .indexAddr t x i => match P.underlying t, carg x, carg i with
    | some (.slice el), some a, some b => (tSize P el).map fun es => .idx es a b
    | some (.array n el), some a, some b => (tSize P el).map fun es => .idxA n es a b
    | _, _, _ => none
  | .index t x i => match P.underlying t, carg x, carg i with
    | some .string, some a, some b => some (.sidx a b)
    | some (.array len el), some a, some b => match P.underlying el, tSize P el with
      | some d, some n => some (.aidx (aggD d) len n a b)
      | _, _ => none
    | _, _, _ => none
  | .extract x i => (carg x).map fun a => .ext a i
  | .call c => compCall P c
  | _ => none

/-- The operation came to a value, or to none that is kept. -/
def Ran (P : Program) (ev : Operand → Value) (o : Oper) (w : World) (u : Value) (w' : World) : Prop :=
  (execOp ev o).run P w = .ok (.value u) w' ∨ ((execOp ev o).run P w = .ok .skip w' ∧ u = undef)

def OpGoes (P : Program) (ev : Operand → Value) (o : Oper) (e : Emb) (w : World) (x : AV) (H' : AHeap) : Prop :=
  ∃ u w' e', Ran P ev o w u w' ∧ HRel e' H' w' ∧ VRel e' w' x u ∧ Evo e w e' w'

theorem OpGoes.of {P : Program} {ev : Operand → Value} {o : Oper} {e : Emb} {w : World} {x : AV} {H' : AHeap} {s : Sem Value} (h : Goes P s e w x H')
    (he : ∀ u w', s.run P w = .ok u w' → (execOp ev o).run P w = .ok (.value u) w') : OpGoes P ev o e w x H' := by
  obtain ⟨u, w', e', h1, h2, h3, h4⟩ := h
  exact ⟨u, w', e', .inl (he u w' h1), h2, h3, h4⟩

section
variable {e : Emb} {w : World} {H : AHeap} {P : Program} {tm : Nat → AV} {a : Act}

theorem compArgs_rel (hT : TRel e w tm a) : ∀ {xs : List Operand} {ys : List AArg}, compArgs xs = some ys → LRel e w (ys.map (·.ev tm)) (xs.map a.eval) := by
  intro xs
  induction xs with
  | nil => intro ys h; simp only [compArgs, Option.some.injEq] at h; subst h; exact LRel.nil
  | cons x xs ih =>
    intro ys h
    simp only [compArgs] at h
    split at h
    · rename_i y r' h1 h2
      injection h with h
      subst h
      exact LRel.cons (carg_rel hT h1) (ih h2)
    · cases h

theorem compParts_rel (hT : TRel e w tm a) {f : Nat → Option (Nat × Nat)} : ∀ {xs : List (Nat × Operand)} {ys : List (Nat × Nat × AArg)}, compParts f xs = some ys →
    xs.length = ys.length ∧ ∀ (i : Nat) (p : Nat × Nat × AV) (v : Nat × Value), (ys.map fun p => (p.1, p.2.1, p.2.2.ev tm))[i]? = some p → (xs.map fun q => (q.1, a.eval q.2))[i]? = some v → f v.1 = some (p.1, p.2.1) ∧ VRel e w p.2.2 v.2 := by
  intro xs
  induction xs with
  | nil => intro ys h; simp only [compParts, Option.some.injEq] at h; subst h; exact ⟨rfl, fun i p v h => by simp at h⟩
  | cons x xs ih =>
    intro ys h
    obtain ⟨i0, x⟩ := x
    simp only [compParts] at h
    split at h
    · rename_i o n y r' h1 h2 h3
      injection h with h
      subst h
      obtain ⟨h4, h5⟩ := ih h3
      refine ⟨by simp [h4], fun i p v hp hv => ?_⟩
      cases i with
      | zero =>
        simp only [List.map_cons, List.getElem?_cons_zero, Option.some.injEq] at hp hv
        subst hp hv
        exact ⟨h1, carg_rel hT h2⟩
      | succ i => exact h5 i p v (by simpa using hp) (by simpa using hv)
    · cases h

end
end Go.Proofs.Ytooaiddfokbffaa.E
