/-
  The functions Slot of package sums and of the reference: both return Slots.slot of the bytes of their argument, at every string; the world stays.
-/
import Derived.Test.YtkhalhfijejioaaRefCrc
import Derived.Test.YtkhalhfijejioaaSlots
namespace Go.Proofs.Ytkhalhfijejioaa
open Go.RowKit

theorem hash_next (s : ByteArray) (k : Nat) (h : k < s.size) : Slots.hash 2166136261 (s.data.toList.take (k + 1)) = (Slots.hash 2166136261 (s.data.toList.take k) ^^^ s[k].toNat) * 16777619 % 4294967296 := by
  rw [take_snoc s k h, Slots.hash_append]; rfl
theorem shr_u32 (h n : Nat) (hh : h < 4294967296) : bits .xor .u32 (h : Int) ((h : Int) / (n : Int)) = ((h ^^^ h / n : Nat) : Int) := by
  have e : (h : Int) / (n : Int) = ((h / n : Nat) : Int) := by simp
  rw [e]
  exact u32_xor_nat _ _ hh (Nat.lt_of_le_of_lt (Nat.div_le_self _ _) hh)

set_option maxRecDepth 100000 in
theorem slot_any (s : ByteArray) (w : World) (hs : s.size ≤ maxLen) :
    Calls Try.prog 11 #[.string s] w fun e w' => e = .returned (.int .i64 (Slots.slot s.data.toList)) ∧ w = w' := by
  unfold maxLen at hs
  go_enter Try.func11, Try.ntmps11
  go_wp2_with fail
  go_loop [3, 7] (fun c i => ∃ k : Nat, k ≤ s.size ∧ i = .int .i64 k ∧ c = .int .u32 (Slots.hash 2166136261 (s.data.toList.take k))) (fun _ i => s.size - (intOf i).toNat)
  case atStart => exact ⟨0, by omega, rfl, rfl⟩
  case round =>
    obtain ⟨k, hk, rfl, rfl⟩ := hrel
    by_cases hlt : k < s.size
    · have hc := Slots.hash_lt (s.data.toList.take k) (h := 2166136261) (by decide)
      have hn := hash_next s k hlt
      generalize Slots.hash 2166136261 (s.data.toList.take k) = c at *
      have HN := Lib.hid hn
      clear hn
      have hb := s[k].toNat_lt
      have hx : bits .xor .u32 (c : Int) (s[k].toNat : Int) = ((c ^^^ s[k].toNat : Nat) : Int) := u32_xor_nat c s[k].toNat hc (by omega)
      have hd : c ^^^ s[k].toNat < 4294967296 := Nat.xor_lt_two_pow (n := 32) hc (by omega)
      generalize c ^^^ s[k].toNat = d at *
      go_wp2_with fail
      go_round
      case rel => exact ⟨k + 1, by omega, by go_num, u32_eq (by rw [HN.out]; omega)⟩
      case measure => simp [intOf]; omega
    · obtain rfl : k = s.size := by omega
      have hfull : s.data.toList.take s.size = s.data.toList := List.take_of_length_le (by simp)
      have hh := Slots.hash_lt (s.data.toList.take s.size) (h := 2166136261) (by decide)
      have HS : Hid (Slots.slot s.data.toList = Slots.fours (Slots.hash 2166136261 (s.data.toList.take s.size))) := by rw [hfull]; rfl
      clear hfull
      generalize Slots.hash 2166136261 (s.data.toList.take s.size) = h at *
      have HF : Hid ((((h ^^^ h / 65536) ^^^ (h ^^^ h / 65536) / 256) ^^^ ((h ^^^ h / 65536) ^^^ (h ^^^ h / 65536) / 256) / 16) % 16 = Slots.fours h) := Slots.fours_fold h
      have f1 : bits .xor .u32 (h : Int) ((h : Int) / 65536) = ((h ^^^ h / 65536 : Nat) : Int) := shr_u32 h 65536 hh
      have l1 : h ^^^ h / 65536 < 4294967296 := Nat.xor_lt_two_pow (n := 32) hh (by omega)
      generalize h ^^^ h / 65536 = a at *
      have f2 : bits .xor .u32 (a : Int) ((a : Int) / 256) = ((a ^^^ a / 256 : Nat) : Int) := shr_u32 a 256 l1
      have l2 : a ^^^ a / 256 < 4294967296 := Nat.xor_lt_two_pow (n := 32) l1 (by omega)
      generalize a ^^^ a / 256 = b at *
      have f3 : bits .xor .u32 (b : Int) ((b : Int) / 16) = ((b ^^^ b / 16 : Nat) : Int) := shr_u32 b 16 l2
      have l3 : b ^^^ b / 16 < 4294967296 := Nat.xor_lt_two_pow (n := 32) l2 (by omega)
      generalize b ^^^ b / 16 = c at *
      have f4 : bits .and .u32 (c : Int) 15 = ((c % 16 : Nat) : Int) := by
        have := u32_and_nat c 15 l3 (by decide)
        rw [nat_mask4] at this; exact this
      have l4 : c % 16 < 16 := Nat.mod_lt _ (by decide)
      generalize c % 16 = d at *
      go_wp2_with fail
      go_ret
      exact ⟨ret_int (by rw [HS.out, ← HF.out]), rfl⟩

/-- the fours xor so far -/
def fold4 (h : Nat) : Nat → Nat
  | 0 => 0
  | m + 1 => fold4 h m ^^^ (h / 16 ^ m % 16)
theorem fold4_lt (h m : Nat) : fold4 h m < 16 := by
  induction m with
  | zero => exact Nat.zero_lt_succ 15
  | succ m ih => exact Nat.xor_lt_two_pow (n := 4) ih (Nat.mod_lt _ (by decide))
theorem fold4_all (h : Nat) : fold4 h 8 = Slots.fours h := by
  unfold Slots.fours
  simp only [fold4, Slots.mod16, Nat.reducePow, Nat.div_one, Nat.zero_xor]

theorem fold4_bits (h m : Nat) (hh : h < 4294967296) :
    bits .xor .i64 (fold4 h m : Int) (bits .and .i64 ((h : Int) / 2 ^ (4 * m)) 15) = ((fold4 h (m + 1) : Nat) : Int) := by
  have e : (h : Int) / 2 ^ (4 * m) = ((h / 16 ^ m : Nat) : Int) := by
    have : (16 : Nat) ^ m = 2 ^ (4 * m) := by rw [Nat.pow_mul]
    rw [this]; simp
  have e2 := i64_and_nat (h / 16 ^ m) 15 (Nat.lt_of_le_of_lt (Nat.div_le_self _ _) (by omega)) (by decide)
  rw [nat_mask4] at e2
  rw [e, show (15 : Int) = ((15 : Nat) : Int) from rfl, e2]
  have l := fold4_lt h m
  have l2 : h / 16 ^ m % 16 < 16 := Nat.mod_lt _ (by decide)
  rw [i64_xor_nat _ _ (by omega) (by omega)]
  rfl
set_option maxRecDepth 100000 in
theorem refslot_any (s : ByteArray) (w : World) (hs : s.size ≤ maxLen) :
    Calls Try.prog 12 #[.string s] w fun e w' => e = .returned (.int .i64 (Slots.slot s.data.toList)) ∧ w = w' := by
  unfold maxLen at hs
  go_enter Try.func12, Try.ntmps12
  go_wp2_with fail
  go_loop [3, 4] (fun c i => ∃ k : Nat, k ≤ s.size ∧ i = .int .i64 k ∧ c = .int .i64 (Slots.hash 2166136261 (s.data.toList.take k))) (fun _ i => s.size - (intOf i).toNat)
  case atStart => exact ⟨0, by omega, rfl, rfl⟩
  case round =>
    obtain ⟨k, hk, rfl, rfl⟩ := hrel
    by_cases hlt : k < s.size
    · have hc := Slots.hash_lt (s.data.toList.take k) (h := 2166136261) (by decide)
      have hn := hash_next s k hlt
      generalize Slots.hash 2166136261 (s.data.toList.take k) = c at *
      have HN := Lib.hid hn
      clear hn
      have hb := s[k].toNat_lt
      have hx : bits .xor .i64 (c : Int) (s[k].toNat : Int) = ((c ^^^ s[k].toNat : Nat) : Int) := i64_xor_nat c s[k].toNat (by omega) (by omega)
      have hd : c ^^^ s[k].toNat < 4294967296 := Nat.xor_lt_two_pow (n := 32) hc (by omega)
      generalize c ^^^ s[k].toNat = d at *
      have hm : bits .and .i64 ((d : Int) * 16777619) 4294967295 = ((d * 16777619 % 4294967296 : Nat) : Int) := by
        have := i64_and_nat (d * 16777619) 4294967295 (by omega) (by decide)
        rw [show (4294967295 : Nat) = 2 ^ 32 - 1 from rfl, Nat.and_two_pow_sub_one_eq_mod] at this
        rw [Int.natCast_mul] at this; exact this
      go_wp2_with fail
      go_round
      case rel => exact ⟨k + 1, by omega, by go_num, i64_eq (by rw [HN.out]; omega)⟩
      case measure => simp [intOf]; omega
    · obtain rfl : k = s.size := by omega
      have hfull : s.data.toList.take s.size = s.data.toList := List.take_of_length_le (by simp)
      have hh := Slots.hash_lt (s.data.toList.take s.size) (h := 2166136261) (by decide)
      have HS : Hid (Slots.slot s.data.toList = Slots.fours (Slots.hash 2166136261 (s.data.toList.take s.size))) := by rw [hfull]; rfl
      clear hfull
      generalize Slots.hash 2166136261 (s.data.toList.take s.size) = h at *
      go_wp2_with fail
      go_loop [5, 6] (fun c i => ∃ m : Nat, m ≤ 8 ∧ i = .int .i64 m ∧ c = .int .i64 (fold4 h m)) (fun _ i => 8 - (intOf i).toNat)
      case atStart => exact ⟨0, by omega, rfl, rfl⟩
      case round =>
        obtain ⟨m, hm, rfl, rfl⟩ := hrel
        by_cases hm8 : m < 8
        · go_wp2_with fail
          go_round
          case rel => exact ⟨m + 1, by omega, by go_num, i64_eq (fold4_bits _ _ hh)⟩
          case measure => simp [intOf]; omega
        · obtain rfl : m = 8 := by omega
          go_wp2_with fail
          go_ret
          exact ⟨ret_int (by rw [HS.out, ← fold4_all]), rfl⟩
end Go.Proofs.Ytkhalhfijejioaa
