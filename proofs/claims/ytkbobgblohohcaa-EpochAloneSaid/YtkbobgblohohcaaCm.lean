/- The memory of cells, as it turns: plain. -/
import Derived.Test.YtkbobgblohohcaaMo
namespace Go.Cells
open Go.RowKit
def poison : Int := -4611686018427387904
/-- an access, as the trace tells it -/
structure Acc where
  k : Int
  a : Int
  v : Int
  o : Int
  good : Bool
deriving DecidableEq
/-- a memory: its words, its trace, how many accesses were refused -/
structure Cm where
  ws : List Int
  tr : List Acc
  bad : Nat
/-- what stands there, and the refusal -/
def Cm.look (S : Cm) (addr : Int) : Int × Int :=
  if 0 ≤ addr ∧ addr < S.ws.length then (if S.ws.getD addr.toNat 0 = poison then (poison, 141) else (S.ws.getD addr.toNat 0, 0)) else (0, 140)
def Cm.looked (S : Cm) (addr : Int) : Nat := if (S.look addr).2 = 0 then S.bad else S.bad + 1
def Cm.load (S : Cm) (addr : Int) : Cm := ⟨S.ws, S.tr ++ [⟨1, addr, (S.look addr).1, 0, (S.look addr).2 == 0⟩], S.looked addr⟩
def Cm.store (S : Cm) (addr x : Int) : Cm := ⟨if (S.look addr).2 = 0 then S.ws.set addr.toNat x else S.ws, S.tr ++ [⟨2, addr, x, (S.look addr).1, (S.look addr).2 == 0⟩], S.looked addr⟩
def Cm.swaps (S : Cm) (addr old : Int) : Bool := (S.look addr).2 == 0 && (S.look addr).1 == old
def Cm.swap (S : Cm) (addr old x : Int) : Cm := ⟨if S.swaps addr old = true then S.ws.set addr.toNat x else S.ws, S.tr ++ [⟨3, addr, x, (S.look addr).1, S.swaps addr old⟩], S.looked addr⟩
def Cm.add (S : Cm) (addr by_ : Int) : Cm := ⟨if (S.look addr).2 = 0 then S.ws.set addr.toNat (wrap64 ((S.look addr).1 + by_)) else S.ws, S.tr ++ [⟨4, addr, by_, (S.look addr).1, (S.look addr).2 == 0⟩], S.looked addr⟩
def Cm.note (S : Cm) (x : Acc) : Cm := ⟨S.ws, S.tr ++ [x], S.bad⟩
def Cm.within (S : Cm) (addr n : Int) : Bool := decide (0 ≤ addr) && (decide (0 ≤ n) && decide (addr ≤ S.ws.length - n))
/-- words from one on are a number -/
def fillL (ws : List Int) (addr n : Nat) (x : Int) : List Int := ws.take addr ++ List.replicate n x ++ ws.drop (addr + n)
def Cm.fill (S : Cm) (addr n x : Int) : Cm := if S.within addr n = true then ⟨fillL S.ws addr.toNat n.toNat x, S.tr, S.bad⟩ else S
def Cm.words (S : Cm) (addr n : Int) : List Int := if S.within addr n = true then (S.ws.drop addr.toNat).take n.toNat else []
def Cm.code (S : Cm) (addr n : Int) : Int := if S.within addr n = true then 0 else 140
end Go.Cells
