/- The Go structs as Lean structures, and their cells. -/
import Derived.Test.YtdgamfanffnhaaaPkCore
set_option linter.unusedVariables false
set_option linter.unusedSimpArgs false
namespace Go.Proofs.Ytdgamfanffnhaaa.PI
open Go
set_option maxRecDepth 100000
set_option linter.unusedVariables false
def encInt (n : Int) : List C := [.int .i64 n]
def encB (n : Int) : List C := [.int .u8 n]
structure Rect where
  x : Int
  y : Int
  w : Int
  h : Int
  deriving DecidableEq, Inhabited
def encRect (v : Rect) : List C := [.int .i64 v.x, .int .i64 v.y, .int .i64 v.w, .int .i64 v.h]
structure Pack where
  w : Int
  h : Int
  side : Int
  fillX : Bool
  fillY : Bool
  expand : Bool
  anchor : Int
  padX : Int
  padY : Int
  deriving DecidableEq, Inhabited
def encPack (v : Pack) : List C := [.int .i64 v.w, .int .i64 v.h, .int .i64 v.side, .bool v.fillX, .bool v.fillY, .bool v.expand, .int .i64 v.anchor, .int .i64 v.padX, .int .i64 v.padY]
structure Cell where
  col : Int
  row : Int
  manyCols : Int
  manyRows : Int
  w : Int
  h : Int
  stick : Int
  padX : Int
  padY : Int
  deriving DecidableEq, Inhabited
def encCell (v : Cell) : List C := [.int .i64 v.col, .int .i64 v.row, .int .i64 v.manyCols, .int .i64 v.manyRows, .int .i64 v.w, .int .i64 v.h, .int .i64 v.stick, .int .i64 v.padX, .int .i64 v.padY]
structure Place where
  x : Int
  y : Int
  relX : Int
  relY : Int
  w : Int
  h : Int
  relW : Int
  relH : Int
  anchor : Int
  deriving DecidableEq, Inhabited
def encPlace (v : Place) : List C := [.int .i64 v.x, .int .i64 v.y, .int .i64 v.relX, .int .i64 v.relY, .int .i64 v.w, .int .i64 v.h, .int .i64 v.relW, .int .i64 v.relH, .int .i64 v.anchor]
structure Line where
  weight : Int
  min : Int
  deriving DecidableEq, Inhabited
def encLine (v : Line) : List C := [.int .i64 v.weight, .int .i64 v.min]
structure Node where
  parent : Int
  w : Int
  h : Int
  keep : Bool
  kind : Int
  cols : List Line
  rows : List Line
  pack : Pack
  cell : Cell
  place : Place
  deriving DecidableEq, Inhabited
def cellsNode (parent : Int) (w : Int) (h : Int) (keep : Bool) (kind : Int) (cols : C) (rows : C) (pack : Pack) (cell : Cell) (place : Place) : List C := [.int .i64 parent, .int .i64 w, .int .i64 h, .bool keep, .int .i64 kind, cols, rows, .int .i64 pack.w, .int .i64 pack.h, .int .i64 pack.side, .bool pack.fillX, .bool pack.fillY, .bool pack.expand, .int .i64 pack.anchor, .int .i64 pack.padX, .int .i64 pack.padY, .int .i64 cell.col, .int .i64 cell.row, .int .i64 cell.manyCols, .int .i64 cell.manyRows, .int .i64 cell.w, .int .i64 cell.h, .int .i64 cell.stick, .int .i64 cell.padX, .int .i64 cell.padY, .int .i64 place.x, .int .i64 place.y, .int .i64 place.relX, .int .i64 place.relY, .int .i64 place.w, .int .i64 place.h, .int .i64 place.relW, .int .i64 place.relH, .int .i64 place.anchor]
def encNode (v : Node) : List C := cellsNode v.parent v.w v.h v.keep v.kind (.sl (v.cols.map encLine)) (.sl (v.rows.map encLine)) v.pack v.cell v.place
def encNodeR (v : Node) : List C := cellsNode v.parent v.w v.h v.keep v.kind (.rsl (v.cols.map encLine)) (.rsl (v.rows.map encLine)) v.pack v.cell v.place
structure Span where
  at_ : Int
  many : Int
  need : Int
  deriving DecidableEq, Inhabited
def encSpan (v : Span) : List C := [.int .i64 v.at_, .int .i64 v.many, .int .i64 v.need]
end Go.Proofs.Ytdgamfanffnhaaa.PI
