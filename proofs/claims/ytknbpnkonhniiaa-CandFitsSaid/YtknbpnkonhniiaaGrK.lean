/- Grids: rings of cells: plain, and walked. -/
import Derived.Test.YtknbpnkonhniiaaGrI
import Derived.Laws.ComplexArith
namespace Go.Proofs.Ytknbpnkonhniiaa.Ne
open Go.RowKit Go.V Go.Proofs

def oneF : Nat := 4607182418800017408
def stepF : Nat → Nat × Nat
  | 0 => (0, oneF)
  | i + 1 => (cMulBits (stepF i).1 (stepF i).2 0 oneF).getD (0, 0)
def beginF (r : Nat) : Nat × Nat := (floatOfInt .f64 (r : Int), floatOfInt .f64 (-(r : Int)))
def addF (a s : Nat × Nat) : Nat × Nat := (cSumBits .add .f64 a.1 a.2 s.1 s.2).getD (0, 0)
def posF (a s : Nat × Nat) : Nat → Nat × Nat
  | 0 => a
  | j + 1 => addF (posF a s j) s
def sideF (r : Nat) : Nat → Nat × Nat
  | 0 => beginF r
  | i + 1 => posF (sideF r i) (stepF i) (2 * r)
def cellF (a : Nat × Nat) : Int × Int := ((floatToIntVal .f64 a.1 .i64).getD 0, (floatToIntVal .f64 a.2 .i64).getD 0)
def sideL (r i : Nat) (j : Nat) : List (Int × Int) := (List.range j).map fun j => cellF (posF (sideF r i) (stepF i) (j + 1))
def ringL (r : Nat) : List (Int × Int) := if r = 0 then [(0, 0)] else (List.range 4).flatMap fun i => sideL r i (2 * r)
/-- The same ring, in whole numbers. -/
def tabL (r : Nat) : List (Int × Int) := if r = 0 then [(0, 0)] else
  (List.range (2 * r)).map (fun j : Nat => ((r : Int), -(r : Int) + (j + 1))) ++ (List.range (2 * r)).map (fun j : Nat => ((r : Int) - (j + 1), (r : Int))) ++
  (List.range (2 * r)).map (fun j : Nat => (-(r : Int), (r : Int) - (j + 1))) ++ (List.range (2 * r)).map (fun j : Nat => (-(r : Int) + (j + 1), -(r : Int)))
def squareL (R : Nat) : List (Int × Int) := (List.range (R + 1)).flatMap tabL
/-- All goes well on the way. -/
def goodF (r : Nat) : Bool := (List.range 4).all fun i => (cMulBits (stepF i).1 (stepF i).2 0 oneF).isSome && (List.range (2 * r)).all fun j => (cSumBits .add .f64 (posF (sideF r i) (stepF i) j).1 (posF (sideF r i) (stepF i) j).2 (stepF i).1 (stepF i).2).isSome && (floatToIntVal .f64 (posF (sideF r i) (stepF i) (j + 1)).1 .i64).isSome && (floatToIntVal .f64 (posF (sideF r i) (stepF i) (j + 1)).2 .i64).isSome
def eqB : List (Int × Int) → List (Int × Int) → Bool
  | [], [] => true
  | x :: xs, y :: ys => decide (x.1 = y.1) && decide (x.2 = y.2) && eqB xs ys
  | _, _ => false
theorem goodF_all : ((List.range 7).all fun r => goodF r && eqB (ringL r) (tabL r)) = true := by kernel_rfl
def nodupB : List (Int × Int) → Bool
  | [] => true
  | x :: xs => (xs.all fun y => !(decide (x.1 = y.1) && decide (x.2 = y.2))) && nodupB xs
def gridB (R : Nat) : List (Int × Int) := (List.range (2 * R + 1)).flatMap fun (i : Nat) => (List.range (2 * R + 1)).map fun (j : Nat) => ((i : Int) - R, (j : Int) - R)
def coverB (R : Nat) : Bool := (gridB R).all fun x => (squareL R).any fun y => decide (x.1 = y.1) && decide (x.2 = y.2)
def smallB (R : Nat) : Bool := (squareL R).all fun x => decide (-6 ≤ x.1) && decide (x.1 ≤ 6) && decide (-6 ≤ x.2) && decide (x.2 ≤ 6)
theorem nodupB_all : ((List.range 7).all fun R => nodupB (squareL R)) = true := by kernel_rfl
theorem coverB_all : ((List.range 7).all fun R => coverB R) = true := by kernel_rfl
theorem smallB_all : ((List.range 7).all fun R => smallB R) = true := by kernel_rfl
end Go.Proofs.Ytknbpnkonhniiaa.Ne
