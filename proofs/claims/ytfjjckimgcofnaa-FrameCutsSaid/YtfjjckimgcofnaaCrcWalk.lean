/-
  The function Crc of package sums: it returns Crc.crc of the bytes of its argument, at every string; it writes nothing that was there.
-/
import Derived.Test.YtfjjckimgcofnaaShares
import Derived.Lib.Hide
namespace Go.Proofs.Ytfjjckimgcofnaa
open Go.RowKit

theorem take_snoc (s : ByteArray) (k : Nat) (h : k < s.size) : s.data.toList.take (k + 1) = s.data.toList.take k ++ [s[k]] := by
  rw [List.take_succ_eq_append_getElem (by simpa using h)]; rfl
theorem run_next (s : ByteArray) (k : Nat) (h : k < s.size) : Crc.run 4294967295 (s.data.toList.take (k + 1)) = Crc.F (Crc.run 4294967295 (s.data.toList.take k) ^^^ s[k].toNat) := by
  rw [take_snoc s k h, Crc.run_append]; rfl
theorem table_bits {n : Nat} (f c : Nat) (hf : f < 4294967296) (hc : c < 4294967296) (h : n = f ^^^ c / 256) : bits .xor .u32 (f : Int) ((c : Int) / 256) = (n : Int) := by
  have e : (c : Int) / 256 = ((c / 256 : Nat) : Int) := by omega
  rw [e, u32_xor_nat _ _ hf (by omega), h]
theorem ret_int {k : IntKind} {a b : Int} (h : a = b) : Ending.returned (.int k a) = .returned (.int k b) := by rw [h]
theorem not_bits (c : Nat) (hc : c < 4294967296) : wrap64 (bits .xor .u32 IntKind.u32.max (c : Int)) = ((c ^^^ 4294967295 : Nat) : Int) := by
  have e : IntKind.u32.max = ((4294967295 : Nat) : Int) := by decide
  rw [e, u32_xor_nat _ _ (by decide) hc, Nat.xor_comm]
  have := Nat.xor_lt_two_pow (n := 32) hc (show 4294967295 < 2 ^ 32 by decide)
  unfold wrap64; omega
set_option maxRecDepth 100000 in
theorem crc_any (s : ByteArray) (w : World) (hs : s.size ≤ maxLen) :
    Calls Try.prog 18 #[.string s] w fun e w' => e = .returned (.int .i64 (Crc.crc s.data.toList)) ∧ Below w.heap.size w w' := by
  unfold maxLen at hs
  go_enter Try.func18, Try.ntmps18
  go_wp2_with fail
  refine (shares_any _).mono ?_
  rintro e w1 ⟨cs, rfl, htab, hb⟩
  have hsz := hb.size
  have hone := htab.one
  have hl : some 256 = some cs.size := by rw [htab.1]
  go_wp2_with (first | (refine wpList_alloc_row rfl 45 rfl zeros info45 ?_) | (refine wpList_store_row rfl 45 _ _ rfl _ _ rfl rfl _ _ (heap_alloc_new _ _) (size45.trans hl) (by rw [htab.1]; unfold zeros; simp) hone ?_))
  clear hl hone
  have H : Hid (∀ j, j < 256 → ((w1.alloc (Obj.cells zeros 45)).setRow w1.heap.size cs).cell? ⟨w1.heap.size, j, none⟩ = some (.int .u32 (Crc.F j))) := by
    intro j hj
    rw [cell_setRow_same _ _ _ _ _ _ _ (heap_alloc_new _ _)]
    exact htab.2 j hj
  have HB : Hid (Below w.heap.size w ((w1.alloc (Obj.cells zeros 45)).setRow w1.heap.size cs)) := below_setRow (hb.alloc hsz _) hsz _
  clear htab hb
  generalize (w1.alloc (Obj.cells zeros 45)).setRow w1.heap.size cs = w2 at *
  generalize w1.heap.size = g at *
  go_loop [4, 9] (fun c i => ∃ k : Nat, k ≤ s.size ∧ i = .int .i64 k ∧ c = .int .u32 (Crc.run 4294967295 (s.data.toList.take k))) (fun _ i => s.size - (intOf i).toNat)
  case atStart => exact ⟨0, by omega, rfl, rfl⟩
  case round =>
    obtain ⟨k, hk, rfl, rfl⟩ := hrel
    by_cases hlt : k < s.size
    · have hc := Crc.run_lt (s.data.toList.take k) (c := 4294967295) (by decide)
      have hn := run_next s k hlt
      generalize Crc.run 4294967295 (s.data.toList.take k) = c at *
      have HN := Lib.hid hn
      clear hn
      have hb := s[k].toNat_lt
      have hx : bits .xor .u8 ((c : Int) % 256) (s[k].toNat : Int) = ((c % 256 ^^^ s[k].toNat : Nat) : Int) := u8_xor_nat (c % 256) s[k].toNat (by omega) hb
      have hd : c % 256 ^^^ s[k].toNat < 256 := Nat.xor_lt_two_pow (n := 8) (by omega) hb
      have hcell := H.out _ hd
      have HT := Lib.hid (Crc.F_table c s[k].toNat)
      have hF : Crc.F (c % 256 ^^^ s[k].toNat) < 4294967296 := Crc.F_lt (by omega)
      generalize c % 256 ^^^ s[k].toNat = d at *
      go_wp2_with fail
      go_roundw
      case rel => exact ⟨k + 1, by omega, by go_num, u32_eq (table_bits _ _ hF hc (HN.out.trans HT.out))⟩
      case measure => simp [intOf]; omega
    · obtain rfl : k = s.size := by omega
      have hfull : s.data.toList.take s.size = s.data.toList := List.take_of_length_le (by simp)
      go_wp2_with fail
      go_ret
      exact ⟨ret_int (not_bits _ (Crc.run_lt _ (by decide))), HB.out⟩
end Go.Proofs.Ytfjjckimgcofnaa
