/- What package log computes, in plain Lean: names, stamps, lines. -/
import Derived.Test.YtmoodinalncplaaDoorSpanRead
import Derived.Lib.ItoaLen
import Derived.Lib.ParseIntBTie
import Derived.Lib.SplitLaws
namespace Go.Proofs.YtmoodinalncplaaDoor
open Go.RowKit
namespace Log
def sgn (c : UInt8) : Bool := (97 ≤ c.toNat && c.toNat ≤ 122) || (65 ≤ c.toNat && c.toNat ≤ 90) || (48 ≤ c.toNat && c.toNat ≤ 57) || decide (0 ≤ Lib.indexByte [95, 46, 47, 45, 43] c)

/-- a name is good -/
def nmOk (l : List UInt8) : Bool := decide (1 ≤ l.length) && decide (l.length ≤ 40) && l.all sgn
def nmErr (l : List UInt8) : Int := if nmOk l then 0 else 3

def geZ (u : Nat) : Bool := FloatKind.f64.format.order u 0 == some .gt || FloatKind.f64.format.order u 0 == some .eq
def negB (u : Nat) : Bool := decide (wrap64 (u : Int) < 0)
/-- a time is right -/
def rightB (u : Nat) : Bool := geZ u && !negB u

/-- a stamp's line -/
def line (nm : List UInt8) (t : Int) (u : Nat) : List UInt8 := nm ++ 32 :: Lib.itoa t ++ 32 :: Hex.fix 16 u ++ [10]

structure St where
  nm : ByteArray
  t : Int
  u : Nat

def St.val (x : St) : Value := .agg #[.string x.nm, .int .i64 x.t, .float .f64 x.u]
def St.line (x : St) : List UInt8 := Log.line x.nm.data.toList x.t x.u

def stErr (x : St) : Int := if nmOk x.nm.data.toList = false then 3 else if x.t < 0 ∨ 1099511627776 < x.t then 4 else if rightB x.u = false then 1 else 0
/-- times do not fall -/
def rises : List St → Bool
  | x :: y :: l => decide (x.t ≤ y.t) && rises (y :: l)
  | _ => true
/-- the first stamp's error -/
def stErrs : List St → Int
  | [] => 0
  | x :: l => if stErr x = 0 then stErrs l else stErr x
def chk (xs : List St) : Int := if 200 < xs.length then 2 else if stErrs xs = 0 then (if rises xs then 0 else 3) else stErrs xs

/-- what Print prints -/
def text (xs : List St) : List UInt8 := (xs.map St.line).flatten

/-- a line is read -/
def rd (s : List UInt8) : Option St :=
  match Lib.split (Lib.trimSuffix s [10]) [32] with
  | [a, b, c] => match Lib.parseIntB 64 b, rdVal c with
    | .ok t, some u => if line a t u = s then some ⟨⟨a.toArray⟩, t, u⟩ else none
    | _, _ => none
  | _ => none

/-- the lines of a text, their ends included -/
def lines : List UInt8 → List (List UInt8)
  | [] => []
  | c :: l => if c = 10 then [c] :: lines l else match lines l with
    | [] => [[c]]
    | x :: xs => (c :: x) :: xs

/-- the last two -/
def last2 (l : List St) : List St := l.drop (l.length - 2)

def parseGo (out : List St) : List (List UInt8) → List St × Nat × Int
  | [] => (out, 0, 0)
  | s :: ls => if 200 < out.length + 1 then ([], out.length + 1, 2) else match rd s with
    | none => ([], out.length + 1, 3)
    | some x => if chk (last2 (out ++ [x])) = 0 then parseGo (out ++ [x]) ls else ([], out.length + 1, 3)

def parse (s : List UInt8) : List St × Nat × Int := if 20000 < s.length then ([], 0, 2) else parseGo [] (lines s)
end Log
end Go.Proofs.YtmoodinalncplaaDoor
