/- A part of the proof. Conditions: those of each theorem. -/
import Derived.Test.YtjbodjmkfklleaaDoorEX
set_option linter.unusedVariables false
set_option linter.unusedSimpArgs false
set_option linter.unusedSectionVars false

namespace Go.Ab
open Go.Proofs
set_option maxRecDepth 1000000
set_option linter.unusedVariables false
structure Spot where
  x : Int
  y : Int
  deriving DecidableEq, Inhabited
def cSpot (p : Spot) : List AV := [int p.x, int p.y]
theorem beq_Spot (p q : Spot) : ((p.x == q.x) && ((p.y == q.y) && true)) = decide (p = q) := by
  rcases p with ⟨_, _⟩; rcases q with ⟨_, _⟩; rw [Bool.eq_iff_iff]; simp
structure Turn where
  flip : Bool
  quarter : Int
  deriving DecidableEq, Inhabited
structure Edge where
  name : ByteArray
  line : List Spot
  deriving DecidableEq, Inhabited
def cEdge (p : Edge) : List AV := [str p.name, .sl 2 (p.line.map cSpot)]
structure Notch where
  edge : Int
  at_ : Int
  deriving DecidableEq, Inhabited
def cNotch (p : Notch) : List AV := [int p.edge, int p.at_]
structure Piece where
  name : ByteArray
  edges : List Edge
  grain : Int
  notches : List Notch
  corners : List Spot
  widths : List Int
  match_ : Bool
  deriving DecidableEq, Inhabited
def cPiece (p : Piece) : List AV := [str p.name, .sl 2 (p.edges.map cEdge), int p.grain, .sl 2 (p.notches.map cNotch), .sl 2 (p.corners.map cSpot), .sl 1 (p.widths.map cI), boo p.match_]
structure UseOf where
  piece : Int
  count : Int
  pair : Bool
  deriving DecidableEq, Inhabited
structure Seam where
  pieceA : Int
  edgeA : Int
  pieceB : Int
  edgeB : Int
  reverse : Bool
  ease : Int
  deriving DecidableEq, Inhabited
structure Operation where
  name : ByteArray
  machine : Int
  minutes : Int
  after : List Int
  uses : List Int
  deriving DecidableEq, Inhabited
structure Style where
  name : ByteArray
  sizes : List ByteArray
  multiples : List Int
  pieces : List Piece
  uses : List UseOf
  seams : List Seam
  ops : List Operation
  deriving DecidableEq, Inhabited
structure BigInt where
  neg : Bool
  mag : List Int
  deriving DecidableEq, Inhabited
structure Ratio where
  num : BigInt
  den : List Int
  deriving DecidableEq, Inhabited
structure PolygonSide where
  a : Spot
  b : Spot
  deriving DecidableEq, Inhabited
def cPolygonSide (p : PolygonSide) : List AV := [int p.a.x, int p.a.y, int p.b.x, int p.b.y]
structure Garmentlaw22Edges where
  i : Int
  k : Int
  multiple : Int
  deriving DecidableEq, Inhabited
def cGarmentlaw22Edges (p : Garmentlaw22Edges) : List AV := [int p.i, int p.k, int p.multiple]
structure Garmentlaw22Places where
  from_ : Int
  to_ : Int
  reverse : Bool
  at_ : Int
  deriving DecidableEq, Inhabited
theorem sSpot_t {p q : Spot} (h : p = q) : ((p.x == q.x) && ((p.y == q.y) && true)) = true := by rw [beq_Spot]; exact decide_eq_true h
theorem sSpot_f {p q : Spot} (h : ¬ p = q) : ((p.x == q.x) && ((p.y == q.y) && true)) = false := by rw [beq_Spot]; exact decide_eq_false h
end Go.Ab
