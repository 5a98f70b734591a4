/- A text, quoted: plain laws. -/
import Derived.Test.YtnohefaifbghiaaGreatDoorUnqL
namespace Go.Proofs.YtnohefaifbghiaaGreatDoor

def qb (c : UInt8) : List UInt8 := if c.toNat = 34 ∨ c.toNat = 92 then [92, c] else [c]
def qs (s : ByteArray) : Nat → List UInt8
  | 0 => [34]
  | k + 1 => qs s k ++ qb (s.get! k)
/-- A text, quoted: its bytes. -/
def quoteL (s : ByteArray) : List UInt8 := qs s s.size ++ [34]
theorem qs_len (s : ByteArray) : ∀ k, (qs s k).length ≤ 1 + 2 * k
  | 0 => Nat.le_refl _
  | k + 1 => by
    have := qs_len s k
    simp only [qs, List.length_append]
    unfold qb
    split <;> simp <;> omega
end Go.Proofs.YtnohefaifbghiaaGreatDoor
