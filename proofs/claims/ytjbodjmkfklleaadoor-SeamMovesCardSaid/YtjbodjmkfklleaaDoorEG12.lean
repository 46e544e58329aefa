/- Chapter 21: sides of polygons. -/
import Derived.Test.YtjbodjmkfklleaaDoorES2
import Derived.Test.YtjbodjmkfklleaaDoorEN2
import Derived.Test.YtjbodjmkfklleaaDoorEWall
set_option linter.unusedVariables false
set_option linter.unusedSimpArgs false
set_option linter.unusedSectionVars false

section
namespace Go.Ab
open Go.Proofs
set_option maxRecDepth 10000
set_option linter.unusedVariables false

def tn (a b c : Spot) : Int := (b.x - a.x) * (c.y - b.y) - (b.y - a.y) * (c.x - b.x)
def wi (n a b : Int) : Bool := decide (min a b ≤ n) && decide (n ≤ max a b)
def hold (a b q : Spot) : Bool := decide (tn a b q = 0) && (wi q.x a.x b.x && wi q.y a.y b.y)
end Go.Ab
end

section
namespace Go.Ab
open Go.Proofs
set_option maxRecDepth 10000
set_option linter.unusedVariables false

/-- n / s, rounded, halves away from 0. -/
def shr (n s : Int) : Int := if n < 0 then -((2 * (-n) + s).tdiv (2 * s)) else (2 * n + s).tdiv (2 * s)
def small (n : Int) : Bool := decide (-1000 ≤ n) && decide (n ≤ 1000)
def shifted (p : Spot) : Bool := small p.x && small p.y
end Go.Ab
end

section
namespace Go.Ab
open Go.Proofs
set_option maxRecDepth 10000
set_option linter.unusedVariables false

/-- How far the vertex at k is moved. -/
def sh (n k : Nat) (a b : Int) : Int := shr (((n : Int) - 1 - k) * a + k * b) ((n : Int) - 1)
end Go.Ab
end

section
namespace Go.Ab
open Go.Proofs
set_option maxRecDepth 10000
set_option linter.unusedVariables false

def okE (a : Int) (e : Edge) : Bool := decide (((e.line.length : Nat) : Int) ≤ a) && decide (e.name.size ≤ 100)
def sumE (l : List Edge) : Nat := (l.map fun e => e.line.length).sum
def light (p : Piece) (a : Int) : Bool := decide (p.edges.length ≤ 20) && (decide (p.corners.length ≤ 20) && (decide (p.widths.length ≤ 20) && (decide (p.notches.length ≤ 20) && (p.edges.all (okE a) && decide (((sumE p.edges : Nat) : Int) ≤ a)))))
end Go.Ab
end
