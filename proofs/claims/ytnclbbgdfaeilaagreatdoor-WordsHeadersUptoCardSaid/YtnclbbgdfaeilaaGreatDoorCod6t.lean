/- The letters of base64. -/
import Derived.Test.YtnclbbgdfaeilaaGreatDoorCod6
namespace Go.Proofs.YtnclbbgdfaeilaaGreatDoor
open Go.RowKit Pk C6 Hx
theorem digits_at : ∀ i : Nat, (h : i < 64) → ((⟨#[65, 66, 67, 68, 69, 70, 71, 72, 73, 74, 75, 76, 77, 78, 79, 80, 81, 82, 83, 84, 85, 86, 87, 88, 89, 90, 97, 98, 99, 100, 101, 102, 103, 104, 105, 106, 107, 108, 109, 110, 111, 112, 113, 114, 115, 116, 117, 118, 119, 120, 121, 122, 48, 49, 50, 51, 52, 53, 54, 55, 56, 57, 43, 47]⟩ : ByteArray)[i]'h) = dig (i : Int) := by
  intro i h
  have : ∀ i : Fin 64, ((⟨#[65, 66, 67, 68, 69, 70, 71, 72, 73, 74, 75, 76, 77, 78, 79, 80, 81, 82, 83, 84, 85, 86, 87, 88, 89, 90, 97, 98, 99, 100, 101, 102, 103, 104, 105, 106, 107, 108, 109, 110, 111, 112, 113, 114, 115, 116, 117, 118, 119, 120, 121, 122, 48, 49, 50, 51, 52, 53, 54, 55, 56, 57, 43, 47]⟩ : ByteArray)[i.val]'i.isLt) = dig (i.val : Int) := by decide
  exact this ⟨i, h⟩
end Go.Proofs.YtnclbbgdfaeilaaGreatDoor
