/- Networks and queries as data. -/
import Derived.Test.YtkbhchlecokpiaaFwP4c
namespace Go.Proofs.Ytkbhchlecokpiaa
open Go Go.RowKit Fw Tw Rat
set_option linter.unusedVariables false
/-- a fraction as it stands -/
structure RQ where
  b1 : Bool
  l1 : List Nat
  b2 : Bool
  l2 : List Nat
def rqC (r : RQ) : List M := [.bool r.b1, mW r.l1, .bool r.b2, mW r.l2]
structure Tm where
  pl : Int
  x : RQ
def tmC (t : Tm) : List M := [.int .i64 t.pl, .bool t.x.b1, mW t.x.l1, .bool t.x.b2, mW t.x.l2]
def vcC (v : List Tm) : List M := [mS tmC v]
def niC (n : Int) : List M := [.int .i64 n]
def grC (g : List Int) : List M := [mS niC g]
structure Ly where
  kind : Int
  rows : List (List Tm)
  bias : List RQ
  ch : Int
  high : Int
  wide : Int
  out : Int
  kh : Int
  kw : Int
  st : Int
  pad : Int
  ker : List RQ
  grp : List (List Int)
def lyC (l : Ly) : List M := [.int .u8 l.kind, mS vcC l.rows, mS rqC l.bias, .int .i64 l.ch, .int .i64 l.high, .int .i64 l.wide, .int .i64 l.out, .int .i64 l.kh, .int .i64 l.kw, .int .i64 l.st, .int .i64 l.pad, mS rqC l.ker, mS grC l.grp]
structure Nt where
  inp : Int
  lay : List Ly
def ntC (n : Nt) : List M := [.int .i64 n.inp, mS lyC n.lay]
structure Qy where
  x0 : List RQ
  label : Int
  lo : List RQ
  hi : List RQ
  norm : Int
def qyC (q : Qy) : List M := [mS rqC q.x0, .int .i64 q.label, mS rqC q.lo, mS rqC q.hi, .int .u8 q.norm]
end Go.Proofs.Ytkbhchlecokpiaa
