/- The plain laying of a pattern's code. -/
import Derived.Test.YtlanodchnjojoaaDoorPs
namespace Go.Proofs.YtlanodchnjojoaaDoor
open Go.RowKit

/-- What is laid so far. -/
structure Gs where
  code : List Step
  loops : Nat
  ins : List Nat
  deriving DecidableEq

def Gs.add (s : Gs) (do_ what : Nat) (r : Int) (grp a : Nat) : Gs := { s with code := s.code ++ [⟨do_, what, r, grp, a, 0, s.ins, 0⟩] }
def Gs.setA (s : Gs) (i v : Nat) : Gs := { s with code := s.code.modify i fun st => { st with a := v } }
def Gs.setB (s : Gs) (i v : Nat) : Gs := { s with code := s.code.modify i fun st => { st with b := v } }

def genLeaf (what r : Nat) (s : Gs) : Gs := s.add 0 what r 0 0
def genGrp (g : Nat) (f : Gs → Gs) (s : Gs) : Gs := (f (s.add 4 0 0 g 0)).add 5 0 0 g 0

def iter {α : Type} (f : α → α) : Nat → α → α
  | 0, s => s
  | n + 1, s => iter f n (f s)
theorem iter_succ {α : Type} (f : α → α) : ∀ n s, iter f (n + 1) s = f (iter f n s)
  | 0, _ => rfl
  | n + 1, s => iter_succ f n (f s)

/-- One part that may stand, or not. -/
def genOpt (f : Gs → Gs) (x : Gs × List Nat) : Gs × List Nat :=
  let s1 := x.1.add 2 0 0 0 0
  (f (s1.setA x.1.code.length s1.code.length), x.2 ++ [x.1.code.length])
def setBs : List Nat → Gs → Gs
  | [], s => s
  | i :: r, s => setBs r (s.setB i s.code.length)
def setAs : List Nat → Gs → Gs
  | [], s => s
  | i :: r, s => setAs r (s.setA i s.code.length)

def loop0 (s : Gs) : Gs :=
  let s1 := s.add 2 0 0 0 0
  let s2 := { s1 with loops := s1.loops + 1 }
  let s3 := s2.setA s.code.length s2.code.length
  let s4 := s3.add 6 0 0 s1.loops 0
  { s4 with ins := s4.ins ++ [s1.loops] }
def genPart (f : Gs → Gs) (l m : Int) (s : Gs) : Gs :=
  let s1 := iter f l.toNat s
  if m < 0 then
    let s2 := f (loop0 s1)
    let s3 := s2.add 7 0 0 s1.loops s1.code.length
    let s4 := { s3 with ins := s3.ins.dropLast }
    s4.setB s1.code.length s4.code.length
  else
    let r := iter (genOpt f) (m - l).toNat (s1, [])
    setBs r.2 r.1

mutual
/-- Parts, one behind the other. -/
def gen : T → Gs → Gs
  | .nil, s => s
  | .cons x r, s => gen r (gen x s)
  | .pl what r l m _, s => genPart (genLeaf what r) l m s
  | .pg g bs l m _, s => genPart (genGrp g fun s => let y := genB bs (s, []); setAs y.2 y.1) l m s
  | .lst ps, s => gen ps s
/-- Branches: what is laid, and the jumps to the end. -/
def genB : T → Gs × List Nat → Gs × List Nat
  | .nil, y => y
  | .cons x r, y =>
    if r.len = 0 then (gen x y.1, y.2)
    else
      let s1 := y.1.add 2 0 0 0 0
      let s2 := gen x (s1.setA y.1.code.length s1.code.length)
      let s3 := s2.add 3 0 0 0 0
      genB r (s3.setB y.1.code.length s3.code.length, y.2 ++ [s2.code.length])
  | .pl .., y => y
  | .pg .., y => y
  | .lst _, y => y
end

def genBrs (bs : T) (s : Gs) : Gs := let y := genB bs (s, []); setAs y.2 y.1
def genAtm : Atm → Gs → Gs
  | .leaf what r => genLeaf what r
  | .grp g bs => genGrp g (genBrs bs)
theorem gen_part (a : Atm) (l m : Int) (z : Nat) (s : Gs) : gen (a.part l m z) s = genPart (genAtm a) l m s := by
  cases a with
  | leaf what r => simp [Atm.part, gen, genAtm]
  | grp g bs => simp only [Atm.part, gen, genAtm]; rfl

/-- The first states, from a number on. -/
def bases : List Step → Nat → List Step
  | [], _ => []
  | st :: r, n => { st with base := n } :: bases r (n + st.loops.length + 1)
def total : List Step → Nat
  | [] => 0
  | st :: r => st.loops.length + 1 + total r
/-- All the code. -/
def lay (bs : T) : Gs := (genBrs bs ⟨[], 0, []⟩).add 8 0 0 0 0
def theCode (bs : T) : List Step := bases (lay bs).code 0

end Go.Proofs.YtlanodchnjojoaaDoor
