/- A part of the proof. Conditions: those of each theorem. -/
import Derived.Test.YtjbodjmkfklleaaDoorEX
set_option linter.unusedVariables false
set_option linter.unusedSimpArgs false
set_option linter.unusedSectionVars false

namespace Go.Ab
open Go.Proofs
set_option maxRecDepth 1000000
set_option linter.unusedVariables false
structure Spot where
  x : Int
  y : Int
  deriving DecidableEq, Inhabited
def cSpot (p : Spot) : List AV := [int p.x, int p.y]
structure Turn where
  flip : Bool
  quarter : Int
  deriving DecidableEq, Inhabited
def cTurn (p : Turn) : List AV := [boo p.flip, int p.quarter]
structure Edge where
  name : ByteArray
  line : List Spot
  deriving DecidableEq, Inhabited
structure Notch where
  edge : Int
  at_ : Int
  deriving DecidableEq, Inhabited
structure Piece where
  name : ByteArray
  edges : List Edge
  grain : Int
  notches : List Notch
  corners : List Spot
  widths : List Int
  match_ : Bool
  deriving DecidableEq, Inhabited
structure UseOf where
  piece : Int
  count : Int
  pair : Bool
  deriving DecidableEq, Inhabited
structure Seam where
  pieceA : Int
  edgeA : Int
  pieceB : Int
  edgeB : Int
  reverse : Bool
  ease : Int
  deriving DecidableEq, Inhabited
structure Operation where
  name : ByteArray
  machine : Int
  minutes : Int
  after : List Int
  uses : List Int
  deriving DecidableEq, Inhabited
structure Style where
  name : ByteArray
  sizes : List ByteArray
  multiples : List Int
  pieces : List Piece
  uses : List UseOf
  seams : List Seam
  ops : List Operation
  deriving DecidableEq, Inhabited
structure BigInt where
  neg : Bool
  mag : List Int
  deriving DecidableEq, Inhabited
structure Ratio where
  num : BigInt
  den : List Int
  deriving DecidableEq, Inhabited
structure PolygonSide where
  a : Spot
  b : Spot
  deriving DecidableEq, Inhabited
structure Garmentlaw22Edges where
  i : Int
  k : Int
  multiple : Int
  deriving DecidableEq, Inhabited
structure Garmentlaw22Places where
  from_ : Int
  to_ : Int
  reverse : Bool
  at_ : Int
  deriving DecidableEq, Inhabited
end Go.Ab
