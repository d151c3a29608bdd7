/- A part of an interpreter of the model's code that is proved sound, and of laws told by it: DamX8, DamSym. -/
import Derived.Test.YtdhbhedfbdckaaaGreatDoorPuE2
import Derived.Test.YtdhbhedfbdckaaaGreatDoorPuE3
import Derived.Test.YtdhbhedfbdckaaaGreatDoorPuE1
set_option linter.unusedVariables false
set_option linter.unusedSimpArgs false
/- Bits and octets, symbols, words, on both sides. -/
namespace Go.Proofs.YtdhbhedfbdckaaaGreatDoor
open Go.Dam
set_option linter.unusedVariables false
set_option linter.unusedSimpArgs false
def is01 (c : UInt8) : Bool := decide (c = 48) || decide (c = 49)
def isHx (c : UInt8) : Bool := isD c || inR c 65 70
def dgF (lang : Int) (m : Nat) (b h : Bool) (x : List UInt8) : Pc :=
  if 200 < m then .err 2 else if (decide (x.head? = some 66) && b) = true then .tok 4 (m + 3) else
  if (decide (x.head? = some 72) && (lang == 0) && h || decide (x.head? = some 79) && (lang == 1) && h && decide (m % 2 = 0)) = true then .tok 5 (m + 3) else .err 8
def dgE (lang : Int) : Nat → Bool → Bool → List UInt8 → Pc
  | _, _, _, [] => .err 39
  | m, b, h, c :: x => if c = 39 then dgF lang m b h x else if c = 10 ∨ c = 9 then .err 39 else dgE lang (m + 1) (b && is01 c) (h && isHx c) x
def dgT (lang : Int) (r : List UInt8) : Pc := dgE lang 0 true true (r.drop 1)
end Go.Proofs.YtdhbhedfbdckaaaGreatDoor

/- The reference's symbols of a language: by the kernel. -/
namespace Go.Proofs.YtdhbhedfbdckaaaGreatDoor
open Go.Dam
set_option maxRecDepth 100000
end Go.Proofs.YtdhbhedfbdckaaaGreatDoor
