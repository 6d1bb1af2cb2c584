/- Do: plain. -/
import Derived.Test.YtmfkomdfknflgaaRiv
namespace Go.Proofs.Ytmfkomdfknflgaa

/-- What an access makes of a log. -/
structure Acc where
  who : Int
  cell : Int
  wt : Bool
  at_ : Bool
def celOf (g : LG) (z : Int) : Cel := (g.M z).getD zCel
/-- The worker's clock behind the access. -/
def clkN (g : LG) (a : Acc) : Nat → Nat :=
  let c1 := upd (g.C a.who.toNat) a.who.toNat (g.C a.who.toNat a.who.toNat + 1)
  if a.at_ then fun j => max (c1 j) ((celOf g a.cell).c j) else c1
def okN (g : LG) (a : Acc) : Bool := (rvT a.who a.wt a.at_ (celOf g a.cell) g.n 4).all fun y => decide (y.2 ≤ clkN g a y.1)
def celN (g : LG) (a : Acc) : Cel :=
  ⟨if a.at_ && a.wt then clkN g a else (celOf g a.cell).c, upd (celOf g a.cell).t (kindN a.wt a.at_) (upd ((celOf g a.cell).t (kindN a.wt a.at_)) a.who.toNat (clkN g a a.who.toNat))⟩
def basN (g : LG) (a : Acc) : Nat → Nat → Nat := if a.at_ then upd g.B a.who.toNat (clkN g a) else g.B
def doN (g : LG) (a : Acc) : LG :=
  { n := g.n, C := upd g.C a.who.toNat (clkN g a), B := basN g a, M := updM g.M a.cell (celN g a), L := g.L ++ [⟨a.who.toNat, clkN g a a.who.toNat, basN g a a.who.toNat⟩] }
def DoG (g : LG) (a : Acc) : LG := if isB g.n a.who then doN g a else g
def DoB (g : LG) (a : Acc) : Bool := if isB g.n a.who then okN g a else false
end Go.Proofs.Ytmfkomdfknflgaa
