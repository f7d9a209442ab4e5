/-
  The functions PutFixed and Fixed of package bits, at four bytes, and fixed of package frame: they put a number below 2^32 as four bytes, and read it back. They write nothing that was there.
-/
import Derived.Test.YtfjjckimgcofnaaRows2
import Derived.Test.YtfjjckimgcofnaaRec
import Derived.Laws.MakeOwn
import Derived.Lib.Hide
namespace Go.Proofs.Ytfjjckimgcofnaa
open Go.RowKit

/-- a text of bytes -/
def txt (l : List UInt8) : ByteArray := ⟨l.toArray⟩
theorem ba_ext {a b : ByteArray} (h : a.data.toList = b.data.toList) : a = b := by
  cases a; cases b
  simp only [ByteArray.mk.injEq]
  exact Array.toList_inj.1 h
theorem txt_data (l : List UInt8) : (txt l).data.toList = l := by simp [txt]
theorem txt_size (l : List UInt8) : (txt l).size = l.length := by simp [txt, ByteArray.size]

theorem ret_str2 {a b : ByteArray} {v : Value} (h : a = b) : Ending.returned (.tuple #[.string a, v]) = .returned (.tuple #[.string b, v]) := by rw [h]
/-- what make([]byte, n) lays -/
def noughts (n : Nat) : Array Value := madeCells #[.int .u8 0] (n * 1)
theorem info5 : (Try.prog.info? 5).map (fun i => (i.zero, i.size, i.bytes)) = some (some (.int .u8 0), 1, 1) := by kernel_rfl
theorem make_bytes (W : World) (n : Nat) (hn : n ≤ 281474976710656) :
    (Instr.makeSlice 36 (.int .i64 n) (.int .i64 n)).run Try.prog W = .ok (.slice (some ⟨W.heap.size, 0, none⟩) n n) (W.alloc (.cells (noughts n) 5)) := by
  obtain ⟨i0, hi, hz0, hz1, hz2⟩ := info_parts info5
  have := run_make (P := Try.prog) W 36 5 i0 (.int .u8 0) Try.underlying36 hi hz0 .i64 .i64 n n (by omega) (by omega) (by rw [hz2]; omega) (by omega)
  rw [hz1] at this
  exact this
theorem row_noughts (W : World) (n : Nat) : Row (W.alloc (.cells (noughts n) 5)) W.heap.size (List.replicate n 0) := by
  intro j hj
  rw [List.length_replicate] at hj
  constructor
  · rw [cell_of_row _ _ _ _ _ _ (heap_alloc_new W _)]
    simp [noughts, madeCells, hj, List.getD, Nat.mod_one]
  · exact frozen_of_row _ _ _ _ _ (heap_alloc_new W _)

/-- the row after i bytes of a number -/
def laid (n : Nat) : Nat → List UInt8
  | 0 => List.replicate 4 0
  | i + 1 => (laid n i).set i (UInt8.ofNat (n / 2 ^ (8 * i)))
theorem laid_length (n i : Nat) : (laid n i).length = 4 := by
  induction i with
  | zero => rfl
  | succ i ih => simp only [laid, List.length_set, ih]
theorem laid_all (n : Nat) : laid n 4 = Rec.le4 n := by
  simp [laid, Rec.le4]
theorem byte_at (n i : Nat) : (n : Int) / 2 ^ (8 * i) % 256 = (((UInt8.ofNat (n / 2 ^ (8 * i))).toNat : Nat) : Int) := by
  rw [UInt8.toNat_ofNat']
  simp

set_option maxRecDepth 100000 in
set_option maxHeartbeats 1600000 in
theorem put4_any (n : Nat) (hn : n < 4294967296) (w : World) :
    Calls Try.prog 24 #[.int .i64 n, .int .i64 4] w fun e w' => e = .returned (.tuple #[.string (txt (Rec.le4 n)), .int .i64 0]) ∧ Below w.heap.size w w' := by
  have hmk : ∀ W : World, (Instr.makeSlice 36 (.int .i64 4) (.int .i64 4)).run Try.prog W = .ok (.slice (some ⟨W.heap.size, 0, none⟩) 4 4) (W.alloc (.cells (noughts 4) 5)) := fun W => make_bytes W 4 (by omega)
  have h0 : (n : Int) / 4294967296 = 0 := by omega
  go_enter Try.func24, Try.ntmps24
  go_wp2_with fail
  have hrow := row_noughts w 4
  have hbel := (Below.refl w.heap.size w).alloc (Nat.le_refl _) (.cells (noughts 4) 5)
  have hsz : w.heap.size < (w.alloc (.cells (noughts 4) 5)).heap.size := by simp
  generalize w.alloc (.cells (noughts 4) 5) = w1 at *
  clear hmk h0
  go_loopw [33] (fun i wr => ∃ k : Nat, k ≤ 4 ∧ i = .int .i64 k ∧ Row wr w.heap.size (laid n k) ∧ Below w.heap.size w wr ∧ w.heap.size < wr.heap.size) (fun i _ => 4 - (intOf i).toNat)
  case atStart => exact ⟨0, by omega, rfl, hrow, hbel, hsz⟩
  case round =>
    clear hrow hbel hsz
    obtain ⟨k, hk, rfl, hrow, hbel, hsz⟩ := hrel
    by_cases hkn : k < 4
    · obtain ⟨hcell, hfz⟩ := hrow k (by rw [laid_length]; exact hkn)
      have hki : (k : Int) < 4 := by omega
      have hb := byte_at n k
      have HT : Hid (laid n (k + 1) = (laid n k).set k (UInt8.ofNat (n / 2 ^ (8 * k)))) := rfl
      generalize UInt8.ofNat (n / 2 ^ (8 * k)) = y at *
      generalize (laid n k).getD k 0 = x at hcell
      as_aux_lemma =>
        go_wp2_with fail
        go_roundw
        case rel => exact ⟨k + 1, by omega, by go_num, by rw [HT.out]; exact hrow.set k y, hbel.setCell (Nat.le_refl _) _, by simpa using hsz⟩
        case measure => simp [intOf]; omega
    · obtain rfl : k = 4 := by omega
      rw [laid_all] at hrow
      have hconv := hrow.text 4
      rw [show (Rec.le4 n).length = 4 from rfl] at hconv
      obtain ⟨l, hl⟩ : ∃ l, Rec.le4 n = l := ⟨_, rfl⟩
      rw [hl] at hconv
      have HX := Lib.hid hl
      clear hrow hl
      go_wp2_with fail
      go_ret2
      exact ⟨ret_str2 (by rw [HX.out]; rfl), hbel⟩

/-- fixed: a number as four bytes -/
theorem fixed_any (n : Nat) (hn : n < 4294967296) (w : World) :
    Calls Try.prog 17 #[.int .i64 n] w fun e w' => e = .returned (.string (txt (Rec.le4 n))) ∧ Below w.heap.size w w' := by
  go_enter Try.func17, Try.ntmps17
  go_wp2_with fail
  refine (put4_any n hn _).mono ?_
  rintro e w1 ⟨rfl, hb⟩
  go_wp2_with fail
  go_ret
  exact ⟨rfl, hb⟩

/-- the number so far: the bytes below i -/
def numUp (s : ByteArray) : Nat → Nat
  | 0 => 0
  | i + 1 => numUp s i + 256 ^ i * (s.data.toList.getD i 0).toNat
theorem numUp_all (s : ByteArray) : numUp s 4 = Rec.num4 s.data.toList := by
  simp [numUp, Rec.num4]
theorem numUp_lt (s : ByteArray) (i : Nat) : numUp s i < 256 ^ i := by
  induction i with
  | zero => exact Nat.zero_lt_one
  | succ i ih =>
    have := (s.data.toList.getD i 0).toNat_lt
    simp only [numUp, Nat.pow_succ]
    have h2 : 256 ^ i * (s.data.toList.getD i 0).toNat ≤ 256 ^ i * 255 := Nat.mul_le_mul_left _ (by omega)
    omega

set_option maxRecDepth 100000 in
set_option maxHeartbeats 1600000 in
/-- Fixed at four bytes: a text of fewer -/
theorem fixed_short (s : ByteArray) (hs : s.size < 4) (w : World) :
    Calls Try.prog 21 #[.string s, .int .i64 4] w fun e w' => e = .returned (.tuple #[.int .i64 0, .int .i64 5]) ∧ w = w' := by
  go_enter Try.func21, Try.ntmps21
  go_wp2_with fail
  go_ret2
  exact ⟨rfl, rfl⟩

theorem or_step (a k : Nat) (b : UInt8) (hk : k < 4) (ha : a < 256 ^ k) :
    bits .or .u64 (a : Int) (IntKind.u64.wrap (IntKind.u64.wrap (b.toNat : Int) * 2 ^ (8 * k))) = ((a + 256 ^ k * b.toNat : Nat) : Int) := by
  have hb := b.toNat_lt
  have e0 : (256 : Nat) ^ k = 2 ^ (8 * k) := by rw [Nat.pow_mul]
  have hp : (2 : Nat) ^ (8 * k) ≤ 2 ^ 24 := Nat.pow_le_pow_right (by decide) (by omega)
  have hc : 2 ^ (8 * k) * b.toNat ≤ 2 ^ 24 * 255 := Nat.mul_le_mul hp (by omega)
  rw [e0] at ha ⊢
  have e1 : IntKind.u64.wrap (b.toNat : Int) = (b.toNat : Int) := by rw [IntKind.wrap_u64]; omega
  have e2 : (b.toNat : Int) * 2 ^ (8 * k) = ((2 ^ (8 * k) * b.toNat : Nat) : Int) := by
    rw [Int.natCast_mul, Int.mul_comm]; simp
  have e3 : IntKind.u64.wrap (((2 ^ (8 * k) * b.toNat : Nat) : Int)) = ((2 ^ (8 * k) * b.toNat : Nat) : Int) := by rw [IntKind.wrap_u64]; omega
  rw [e1, e2, e3, u64_or_nat _ _ (by omega) (by omega), Nat.or_comm, nat_join (8 * k) _ _ (Nat.mul_mod_right _ _) ha, Nat.add_comm]
theorem u64_eq {a b : Int} (h : a = b) : Value.int .u64 a = .int .u64 b := by rw [h]
theorem at_byte (s : ByteArray) (k : Nat) (h : k < s.size) : s.data.toList.getD k 0 = s[k] := by
  rw [List.getD, List.getElem?_eq_getElem (by simpa using h)]; rfl
theorem ret_int2 {a b : Int} {k : IntKind} {v : Value} (h : a = b) : Ending.returned (.tuple #[.int k a, v]) = .returned (.tuple #[.int k b, v]) := by rw [h]

set_option maxRecDepth 100000 in
set_option maxHeartbeats 1600000 in
theorem fixed4_any (s : ByteArray) (hs : 4 ≤ s.size) (w : World) :
    Calls Try.prog 21 #[.string s, .int .i64 4] w fun e w' => e = .returned (.tuple #[.int .i64 (Rec.num4 s.data.toList), .int .i64 0]) ∧ w = w' := by
  go_enter Try.func21, Try.ntmps21
  go_wp2_with fail
  go_loop [6, 19] (fun c i => ∃ k : Nat, k ≤ 4 ∧ i = .int .i64 k ∧ c = .int .u64 (numUp s k)) (fun _ i => 4 - (intOf i).toNat)
  case atStart => exact ⟨0, by omega, rfl, rfl⟩
  case round =>
    obtain ⟨k, hk, rfl, rfl⟩ := hrel
    by_cases hkn : k < 4
    · have hks : k < s.size := by omega
      have ha := numUp_lt s k
      have HT : Hid (numUp s (k + 1) = numUp s k + 256 ^ k * (s.data.toList.getD k 0).toNat) := rfl
      have HB := Lib.hid (at_byte s k hks)
      generalize numUp s k = a at *
      have HA := Lib.hid ha
      clear ha
      go_wp2_with fail
      go_round
      case rel => exact ⟨k + 1, by omega, by go_num, u64_eq (by rw [HT.out, HB.out]; exact or_step a k s[k] hkn HA.out)⟩
      case measure => simp [intOf]; omega
    · obtain rfl : k = 4 := by omega
      have hv := numUp_lt s 4
      have HV := Lib.hid (numUp_all s)
      generalize numUp s 4 = v at *
      have hv2 : v < 4294967296 := hv
      clear hv
      go_wp2_with fail
      go_ret2
      exact ⟨ret_int2 (by rw [← HV.out]), rfl⟩

/-- the number of the last m of four bytes -/
def numDown (s : ByteArray) : Nat → Nat
  | 0 => 0
  | m + 1 => 256 * numDown s m + (s.data.toList.getD (3 - m) 0).toNat
theorem numDown_all (s : ByteArray) : numDown s 4 = Rec.num4 s.data.toList := by
  simp only [numDown, Rec.num4, Nat.reduceSub]
  omega
theorem numDown_lt (s : ByteArray) (i : Nat) : numDown s i < 256 ^ i := by
  induction i with
  | zero => exact Nat.zero_lt_one
  | succ i ih =>
    have := (s.data.toList.getD (3 - i) 0).toNat_lt
    simp only [numDown, Nat.pow_succ]
    omega
theorem or_low (a : Nat) (b : UInt8) (ha : a < 4294967296) : bits .or .i64 ((a : Int) * 256) (b.toNat : Int) = ((256 * a + b.toNat : Nat) : Int) := by
  have hb := b.toNat_lt
  have e : (a : Int) * 256 = ((256 * a : Nat) : Int) := by omega
  rw [e, (bits_nat .i64 63 (by decide) wraps_i64 (256 * a) b.toNat (by omega) (by omega)).2, nat_join 8 _ _ (by omega) (by omega)]

set_option maxRecDepth 100000 in
set_option maxHeartbeats 1600000 in
theorem reffixed4_any (s : ByteArray) (hs : 4 ≤ s.size) (w : World) :
    Calls Try.prog 22 #[.string s, .int .i64 4] w fun e w' => e = .returned (.tuple #[.int .i64 (Rec.num4 s.data.toList), .int .i64 0]) ∧ w = w' := by
  go_enter Try.func22, Try.ntmps22
  go_wp2_with fail
  go_loop [6, 7] (fun c i => ∃ m : Nat, m ≤ 4 ∧ i = .int .i64 ((3 : Int) - m) ∧ c = .int .i64 (numDown s m)) (fun _ i => ((intOf i) + 1).toNat)
  case atStart => exact ⟨0, by omega, rfl, rfl⟩
  case round =>
    obtain ⟨m, hm, rfl, rfl⟩ := hrel
    by_cases hm4 : m < 4
    · obtain ⟨j, hj⟩ : ∃ j : Nat, (3 : Int) - m = j := ⟨3 - m, by omega⟩
      have hjs : j < s.size := by omega
      have hjm : 3 - m = j := by omega
      have ha := numDown_lt s m
      have hp : 256 ^ m ≤ 256 ^ 3 := Nat.pow_le_pow_right (by decide) (by omega)
      have HT : Hid (numDown s (m + 1) = 256 * numDown s m + (s.data.toList.getD (3 - m) 0).toNat) := rfl
      have HB := Lib.hid (at_byte s j hjs)
      have HJ := Lib.hid hjm
      clear hjm
      generalize numDown s m = a at *
      have ha2 : a < 16777216 := Nat.lt_of_lt_of_le ha hp
      have hq : (a : Int) / 36028797018963968 = 0 := by omega
      have HJI := Lib.hid hj
      have hb := s[j].toNat_lt
      clear ha hp
      go_wp2_with fail
      go_round
      case rel => exact ⟨m + 1, by omega, i64_eq (by have := HJI.out; omega), i64_eq (by rw [HT.out, HJ.out, HB.out]; exact or_low a s[j] (by omega))⟩
      case measure => simp [intOf]; omega
    · obtain rfl : m = 4 := by omega
      have HV := Lib.hid (numDown_all s)
      go_wp2_with fail
      go_ret2
      exact ⟨ret_int2 (by rw [← HV.out]), rfl⟩
end Go.Proofs.Ytfjjckimgcofnaa
