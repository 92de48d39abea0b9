/- Transactions, plain: their bytes, and what bytes say. -/
import Derived.Test.YthglocpbdfcfnaaHdr
import Derived.Test.YthglocpbdfcfnaaGZ
namespace Go.Proofs.Ythglocpbdfcfnaa
set_option linter.unusedVariables false

abbrev Bs := List (BitVec 8)
structure TIn where
  id : Bs
  ix : BitVec 32
  sc : Bs
  sq : BitVec 32
  wi : List Bs
structure TOut where
  va : BitVec 64
  sc : Bs
structure TTx where
  ve : BitVec 32
  is : List TIn
  os : List TOut
  lo : BitVec 32

/-! ### writing -/
def canIn (x : TIn) : Bool := !decide (10000 < x.sc.length) && (!decide (100 < x.wi.length) && x.wi.all fun b => !decide (10000 < b.length))
def canOut (x : TOut) : Bool := !decide (x.va.toInt < 0) && !decide (10000 < x.sc.length)
def canTx (t : TTx) : Bool := decide (0 < t.is.length) && (decide (t.is.length ≤ 2000) && (decide (t.os.length ≤ 2000) && (t.is.all canIn && t.os.all canOut)))
def hasWs (l : List TIn) : Bool := l.any fun x => decide (0 < x.wi.length)
def cntB (n : Nat) : Bs := enc (BitVec.ofNat 64 n)
def inB (x : TIn) : Bs := x.id ++ (le32 x.ix ++ (text x.sc ++ le32 x.sq))
def outB (x : TOut) : Bs := low x.va 8 ++ text x.sc
def witB (l : List Bs) : Bs := cntB l.length ++ (l.map text).flatten
def insB (l : List TIn) : Bs := cntB l.length ++ (l.map inB).flatten
def outsB (l : List TOut) : Bs := cntB l.length ++ (l.map outB).flatten
def witsB (l : List TIn) : Bs := (l.map fun x => witB x.wi).flatten
/-- a transaction's bytes; m: with its witnesses -/
def txB (t : TTx) (m : Bool) : Bs := le32 t.ve ++ ((if m then [0#8, 1#8] else []) ++ (insB t.is ++ (outsB t.os ++ ((if m then witsB t.is else []) ++ le32 t.lo))))
/-- .. or the error -/
def txP (t : TTx) (wit : Bool) : Bs × Int := if canTx t then (txB t (wit && hasWs t.is), 0) else ([], 1)
end Go.Proofs.Ythglocpbdfcfnaa
