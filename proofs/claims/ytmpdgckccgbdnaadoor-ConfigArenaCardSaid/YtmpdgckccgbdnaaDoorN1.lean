/- Plain words of decimal forms. No condition. -/
import Derived.Test.YtmpdgckccgbdnaaDoorOwn
namespace Go.Proofs.YtmpdgckccgbdnaaDoor
open Go.RowKit
/-- names -/
def lowB (c : UInt8) : Bool := decide (97 ≤ c.toNat ∧ c.toNat ≤ 122)
def digB (c : UInt8) : Bool := decide (48 ≤ c.toNat ∧ c.toNat ≤ 57)
def nameC (c : UInt8) : Bool := lowB c || digB c || c == 45
def nameL (l : List UInt8) : Bool := decide (l.length ≤ 16) && (match l with | [] => false | x :: _ => lowB x) && l.all nameC
/-- decimal forms -/
def digsL (l : List UInt8) : Bool := l.all digB && (match l with | [] => false | [_] => true | x :: _ => !(x == 48))
def decL (l : List UInt8) : Bool := match l with
  | 45 :: x :: r => digsL (x :: r) && !(x == 48)
  | l => digsL l
def natL (l : List UInt8) : Nat := l.foldl (fun n c => 10 * n + (c.toNat - 48)) 0
def intL (l : List UInt8) : Int := match l with
  | 45 :: r => -(natL r : Int)
  | l => natL l
/-- what Int returns -/
def intR (l : List UInt8) (low high : Int) : Int × Int :=
  if decL l = false then (0, 6) else if intL l < -9223372036854775808 ∨ 9223372036854775807 < intL l ∨ intL l < low ∨ high < intL l then (0, 7) else (intL l, 0)
end Go.Proofs.YtmpdgckccgbdnaaDoor
