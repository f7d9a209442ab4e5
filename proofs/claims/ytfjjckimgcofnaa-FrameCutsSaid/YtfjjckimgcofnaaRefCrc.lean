/-
  The function Crc of the reference: it returns Crc.crc of the bytes of its argument, at every string; the world stays.
-/
import Derived.Test.YtfjjckimgcofnaaCrcWalk
namespace Go.Proofs.Ytfjjckimgcofnaa
open Go.RowKit

theorem wraps_i64 (n : Int) (h₀ : 0 ≤ n) (h₁ : n < 2 ^ 63) : IntKind.i64.wrap n = n := by rw [IntKind.wrap_i64]; omega
theorem i64_xor_nat (a b : Nat) (ha : a < 2 ^ 63) (hb : b < 2 ^ 63) : bits .xor .i64 (a : Int) (b : Int) = ((a ^^^ b : Nat) : Int) := by
  have hx := Nat.xor_lt_two_pow ha hb
  have ha' : a % 2 ^ IntKind.i64.bits = a := Nat.mod_eq_of_lt (Nat.lt_of_lt_of_le ha (by decide))
  have hb' : b % 2 ^ IntKind.i64.bits = b := Nat.mod_eq_of_lt (Nat.lt_of_lt_of_le hb (by decide))
  simp only [bits, BitVec.ofInt_natCast, BitVec.toNat_xor, BitVec.toNat_ofNat, ha', hb']
  exact wraps_i64 _ (Int.natCast_nonneg _) (by exact_mod_cast hx)
theorem i64_and_nat (a b : Nat) (ha : a < 2 ^ 63) (hb : b < 2 ^ 63) : bits .and .i64 (a : Int) (b : Int) = ((a &&& b : Nat) : Int) :=
  (bits_nat .i64 63 (by decide) wraps_i64 a b ha hb).1
theorem i64_eq {a b : Int} (h : a = b) : Value.int .i64 a = .int .i64 b := by rw [h]
theorem half_odd (c : Nat) (h : c < 4294967296) (ho : c % 2 = 1) : bits .xor .i64 ((c : Int) / 2) 2197175160 = ((Crc.half c : Nat) : Int) := by
  have e3 : (c : Int) / 2 = ((c / 2 : Nat) : Int) := by omega
  have e := i64_xor_nat (c / 2) 2197175160 (by omega) (by decide)
  unfold Crc.half
  rw [if_pos ho, e3]; exact e
theorem half_even (c : Nat) (ho : ¬ c % 2 = 1) : (c : Int) / 2 = ((Crc.half c : Nat) : Int) := by
  unfold Crc.half
  rw [if_neg ho]; omega

set_option maxRecDepth 100000 in
theorem refcrc_any (s : ByteArray) (w : World) (hs : s.size ≤ maxLen) :
    Calls Try.prog 20 #[.string s] w fun e w' => e = .returned (.int .i64 (Crc.crc s.data.toList)) ∧ w = w' := by
  unfold maxLen at hs
  go_enter Try.func20, Try.ntmps20
  go_wp2_with fail
  go_loop [3, 4] (fun c i => ∃ k : Nat, k ≤ s.size ∧ i = .int .i64 k ∧ c = .int .i64 (Crc.run 4294967295 (s.data.toList.take k))) (fun _ i => s.size - (intOf i).toNat)
  case atStart => exact ⟨0, by omega, rfl, rfl⟩
  case round =>
    obtain ⟨k, hk, rfl, rfl⟩ := hrel
    by_cases hlt : k < s.size
    · have hc := Crc.run_lt (s.data.toList.take k) (c := 4294967295) (by decide)
      have hn := run_next s k hlt
      generalize Crc.run 4294967295 (s.data.toList.take k) = c at *
      have HN := Lib.hid hn
      clear hn
      have hb := s[k].toNat_lt
      have hx : bits .xor .i64 (c : Int) (s[k].toNat : Int) = ((c ^^^ s[k].toNat : Nat) : Int) := i64_xor_nat c s[k].toNat (by omega) (by omega)
      have hd : c ^^^ s[k].toNat < 4294967296 := Nat.xor_lt_two_pow (n := 32) hc (by omega)
      generalize c ^^^ s[k].toNat = d at *
      go_wp2_with fail
      clear hx
      go_loop [3, 5] (fun c i => ∃ m : Nat, m ≤ 8 ∧ i = .int .i64 m ∧ c = .int .i64 (halves m d)) (fun _ i => 8 - (intOf i).toNat)
      case atStart => exact ⟨0, by omega, rfl, rfl⟩
      case round =>
        obtain ⟨m, hm, rfl, rfl⟩ := hrel
        have hh := halves_lt m d hd
        by_cases hm8 : m < 8
        · by_cases ho : halves m d % 2 = 1
          · have hp : (((halves m d : Nat) : Int) % 2 == 1) = true := by rw [beq_iff_eq]; omega
            have HO := Lib.hid ho
            clear ho
            go_wp2_with fail
            go_round
            case rel => exact ⟨m + 1, by omega, by go_num, i64_eq (half_odd _ hh HO.out)⟩
            case measure => simp [intOf]; omega
          · have hp : (((halves m d : Nat) : Int) % 2 == 1) = false := by rw [beq_eq_false_iff_ne]; omega
            have HO := Lib.hid ho
            clear ho
            go_wp2_with fail
            go_round
            case rel => exact ⟨m + 1, by omega, by go_num, i64_eq (half_even _ HO.out)⟩
            case measure => simp [intOf]; omega
        · obtain rfl : m = 8 := by omega
          go_wp2_with fail
          go_round
          case rel => exact ⟨k + 1, by omega, by go_num, i64_eq (by rw [HN.out]; rfl)⟩
          case measure => simp [intOf]; omega
    · obtain rfl : k = s.size := by omega
      have hfull : s.data.toList.take s.size = s.data.toList := List.take_of_length_le (by simp)
      go_wp2_with fail
      go_ret
      exact ⟨ret_int (i64_xor_nat _ 4294967295 (Nat.lt_of_lt_of_le (Crc.run_lt _ (by decide)) (by decide)) (by decide)), rfl⟩
end Go.Proofs.Ytfjjckimgcofnaa
