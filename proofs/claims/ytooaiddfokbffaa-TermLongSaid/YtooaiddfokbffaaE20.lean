/- A plan for each region that draws its order: what floats goes as far ahead as it may. Conditions: none. -/
import Derived.Test.YtooaiddfokbffaaE19
set_option linter.unusedVariables false
namespace Go.Proofs.Ytooaiddfokbffaa.E
open Go

def floatAt (P : Program) (N : Nat) (ops : Array Oper) (i : Nat) : Bool :=
  match (ops[i]?).bind (compI P N ops) with
  | some a => isFloat a
  | none => false

def readyAt (ops : Array Oper) (done : List Nat) : List Nat :=
  (List.range ops.size).filter fun i => !done.any (· == i) && (edgesOf ops i).all fun k => done.any (· == k)

def autoOrder (P : Program) (N : Nat) (ops : Array Oper) : Nat → List Nat → List Nat
  | 0, done => done
  | n + 1, done => match (readyAt ops done).find? (floatAt P N ops) with
    | some i => autoOrder P N ops n (done ++ [i])
    | none => match readyAt ops done with
      | i :: _ => autoOrder P N ops n (done ++ [i])
      | [] => done

def chkOf (P : Program) (N : Nat) (ops : Array Oper) (m : Nat) : Nat → List Nat → List Nat
  | _, [] => []
  | p, r :: rs => if !m.testBit r && floatAt P N ops r then p :: chkOf P N ops m (p + 1) rs else chkOf P N ops m (p + 1) rs

def autoPl (P : Program) (N : Nat) (ops : Array Oper) : List Nat → List (Nat × Nat) → List Nat → List (Nat × List Nat)
  | _, _, [] => []
  | pre, ms, i :: r => (i, if floatAt P N ops i then [] else chkOf P N ops (maskL ms (edgesOf ops i)) 0 pre) :: autoPl P N ops (pre ++ [i]) ((i, maskL ms (edgesOf ops i)) :: ms) r

def autoPlan (P : Program) (N : Nat) (ops : Array Oper) : List (Nat × List Nat) := autoPl P N ops [] [] (autoOrder P N ops ops.size [])

def plansOf (P : Program) (N : Nat) : Code → List (Nat × List (Nat × List Nat))
  | .region id ops draw => if draw = true then [(id, autoPlan P N ops)] else []
  | .seq a b => plansOf P N a ++ plansOf P N b
  | .cond _ a b => plansOf P N a ++ plansOf P N b
  | .block _ b => plansOf P N b
  | .loop b => plansOf P N b
  | .scope b => plansOf P N b
  | _ => []

def plansFn (P : Program) (f : FuncId) : List (Nat × List (Nat × List Nat)) :=
  match P.funcs[f]? with
  | some fn => match fn.body with
    | some c => plansOf P fn.ntmps c
    | none => []
  | none => []

end Go.Proofs.Ytooaiddfokbffaa.E
