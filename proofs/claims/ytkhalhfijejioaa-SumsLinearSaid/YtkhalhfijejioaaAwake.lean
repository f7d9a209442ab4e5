/-
  The function awake of package rookerylaw02: it returns true. No condition.
-/
import Derived.Test.YtkhalhfijejioaaSlotWalk
namespace Go.Proofs.Ytkhalhfijejioaa
open Go.RowKit

theorem crc_known : Crc.crc (ByteArray.mk #[49, 50, 51, 52, 53, 54, 55, 56, 57]).data.toList = 3808858755 := by decide +kernel
theorem slot_lt (l : List UInt8) : Slots.slot l < 16 := Slots.fours_lt _

set_option maxRecDepth 100000 in
theorem awake_any (w : World) : Calls Try.prog 8 #[] w fun e w' => e = .returned (.bool true) ∧ Below w.heap.size w w' := by
  have hcrc := crc_known
  go_enter Try.func8, Try.ntmps8
  go_wp2_with (first | (go_at_call 9; refine (crc_any _ _ (by unfold maxLen; decide)).mono ?_; rintro e w1 ⟨rfl, hb⟩) | (go_at_call 11; refine (slot_any _ _ (by unfold maxLen; decide)).mono ?_; rintro e w1 ⟨rfl, rfl⟩) | (go_at_call 12; refine (refslot_any _ _ (by unfold maxLen; decide)).mono ?_; rintro e w1 ⟨rfl, rfl⟩))
  go_ret
  exact ⟨rfl, hb⟩
end Go.Proofs.Ytkhalhfijejioaa
