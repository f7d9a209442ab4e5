/-
  The walk of the law FrameTells: the call returns true and writes nothing that was there.
-/
import Derived.Test.YtfjjckimgcofnaaLawsB
import Derived.RegionTactic
import Derived.BigRegion
import Derived.RegionCalls
import Derived.Deep.RegionWith
namespace Go.Proofs.Ytfjjckimgcofnaa
open Go.RowKit

theorem byte_bits (a : UInt8) (x : Int) : bits .xor .u8 (a.toNat : Int) (bits .and .i64 x 255 % 256) = (((a ^^^ byteOf x 0).toNat : Nat) : Int) := by
  have := byteOf_bits a x 0
  simpa using this
theorem byte_not (x : Int) (h : (bits .and .i64 x 255 == 0) = false) : byteOf x 0 ≠ 0 := by
  intro h0
  rw [i64_and255] at h
  have := congrArg UInt8.toNat h0
  unfold byteOf at this
  rw [UInt8.toNat_ofNat'] at this
  simp at this h
  omega

theorem scan_none (s : ByteArray) (hs : s.size ≤ 1048576) (h : Rec.take s.data.toList = ([], 0, 40)) (W : World) :
    Calls Try.prog 14 #[.string s] W fun e w' => ∃ a c, e = .returned (.tuple #[.slice a 0 c, .int .i64 0]) ∧ Below W.heap.size W w' := by
  refine (scan_any s hs W).mono ?_
  rintro e w' ⟨v, he, hown, hb⟩
  rw [Rec.scan_no _ (by rw [h]; decide)] at he hown
  rcases hown.2 with ⟨hv, _⟩ | ⟨g, cap, cur, hv, _⟩
  · exact ⟨none, 0, by rw [he, hv]; rfl, hb⟩
  · exact ⟨_, cap, by rw [he, hv]; rfl, hb⟩

set_option maxRecDepth 100000 in
set_option maxHeartbeats 1600000 in
theorem tells_main (s : ByteArray) (at_ by_ m : Int) (K : Nat) (hs : s.size ≤ 4096)
    (hm : at_.tmod ((9 + s.size : Nat) : Int) = m) (hm0 : -9223372036854775807 ≤ m) (hm1 : m ≤ 9223372036854775807) (hmK : m < 0 → -m = K) (hmK2 : ¬ m < 0 → m = K) (hK : K < 9 + s.size) (hK15 : K = 0 ∨ 5 ≤ K)
    (hby : (bits .and .i64 by_ 255 == 0) = false) (w : World) :
    Calls Try.prog 6 #[.string s, .int .i64 at_, .int .i64 by_] w fun e w' => e = .returned (.bool true) ∧ Below w.heap.size w w' := by
  obtain ⟨l, hl⟩ : ∃ l, l = Rec.putText s.data.toList := ⟨_, rfl⟩
  obtain ⟨A, hA⟩ : ∃ A, A = txt l := ⟨_, rfl⟩
  have hll : l.length = 9 + s.size := by rw [hl, Rec.putText_length]; simp
  have hAs : A.size = 9 + s.size := by rw [hA, txt_size, hll]
  have hAd : A.data.toList = l := by rw [hA, txt_data]
  have cP : ∀ W, Calls Try.prog 10 #[.string s] W fun e w' => e = .returned (.tuple #[.string A, .int .i64 0]) ∧ Below W.heap.size W w' := by
    intro W; rw [hA, hl]; exact put_ok s (by omega) W
  have htold := Rec.take_told s.data.toList (by simp; omega) K (by simp; omega) hK15 (byteOf by_ 0) (byte_not by_ hby)
  rw [← hl] at htold
  obtain ⟨y, hy⟩ : ∃ y, y = l.getD K 0 ^^^ byteOf by_ 0 := ⟨_, rfl⟩
  rw [← hy] at htold
  obtain ⟨l2, hl2⟩ : ∃ l2, l2 = l.set K y := ⟨_, rfl⟩
  rw [← hl2] at htold
  have hl2l : l2.length = 9 + s.size := by rw [hl2, List.length_set, hll]
  have cT : ∀ W, Calls Try.prog 12 #[.string (txt l2)] W fun e w' => e = .returned (.tuple #[.string ⟨#[]⟩, .int .i64 0, .int .i64 40]) ∧ Below W.heap.size W w' := by
    intro W
    have := take_any (txt l2) (by rw [txt_size, hl2l]; unfold maxLen; omega) W
    rw [txt_data, took_of htold] at this
    exact this
  have cS : ∀ W, Calls Try.prog 14 #[.string (txt l2)] W fun e w' => ∃ a c, e = .returned (.tuple #[.slice a 0 c, .int .i64 0]) ∧ Below W.heap.size W w' :=
    fun W => scan_none (txt l2) (by rw [txt_size, hl2l]; omega) (by rw [txt_data]; exact htold) W
  have hK1 : ((1 : Int) ≤ (K : Int)) → decide ((K : Int) < 5) = false := by
    intro h; simp; omega
  have hd2 : decide ((4096 : Int) < s.size) = false := by simp; omega
  have hd3 : decide ((A.size : Int) < 9) = false := by simp; omega
  have hx : (A.size : Int) = ((9 + s.size : Nat) : Int) := by rw [hAs]
  rw [← hx] at hm
  have HK := Lib.hid hmK
  have HK2 := Lib.hid hmK2
  have HK15 := Lib.hid hK15
  have CP := Lib.hid cP
  have CT := Lib.hid cT
  have CS := Lib.hid cS
  have HY := Lib.hid hy
  have HL2 := Lib.hid hl2
  have HA := Lib.hid hAs
  have HAD := Lib.hid hAd
  have hA9 : ¬ (A.size : Int) = 0 := by omega
  clear hmK hmK2 cP cT cS hy hl2 hA htold hl hAd hx hK15 hAs
  go_enter Try.func6, Try.ntmps6
  go_wp2_with fail
  refine (CP.out _).mono ?_
  rintro e w1 ⟨rfl, hb1⟩
  go_upto_if 42 with (fail)
  go_cut [9] (fun v wx => v = .int .i64 K ∧ w1 = wx)
  case first =>
    by_cases hneg : m < 0
    · go_wp2_with fail
      go_meet
      exact ⟨i64_eq (HK.out hneg), rfl⟩
    · go_wp2_with fail
      go_meet
      exact ⟨i64_eq (HK2.out hneg), rfl⟩
  case rest =>
  obtain ⟨rfl, rfl⟩ := hcut
  clear hm HK HK2
  have hconv := run_bytes_of_string (P := Try.prog) w1 9 36 5 A Try.underlying9 Try.underlying36 Try.underlying5
  have hguard : (decide ((1 : Int) ≤ K) = false) ∨ (decide ((1 : Int) ≤ K) = true ∧ decide ((K : Int) < 5) = false) := by
    rcases HK15.out with h | h
    · left; simp; omega
    · right; simp; omega
  clear hK1
  rcases hguard with h1 | ⟨h1, h2⟩
  all_goals
    go_upto_region 12 with (fail)
    clear hconv
    obtain ⟨w2, hw2⟩ : ∃ w2, w2 = (w1.alloc (Obj.cells (bytesRow A (grownCap w1 A.size 0 5)) 5 ((bytesRow A (grownCap w1 A.size 0 5)).size, (bytesRow A (grownCap w1 A.size 0 5)).size + 1))).drew := ⟨_, rfl⟩
    rw [← hw2]
    have hrow : Row w2 w1.heap.size l := by
      subst hw2
      have := row_new w1 A (grownCap w1 A.size 0 5) ((bytesRow A (grownCap w1 A.size 0 5)).size, (bytesRow A (grownCap w1 A.size 0 5)).size + 1) (by simp [bytesRow])
      rw [HAD.out] at this
      exact this
    have hb2 : Below w1.heap.size w1 w2 := by subst hw2; exact ((Below.refl _ _).alloc (Nat.le_refl _) _).drew
    have hsz : w2.heap.size = w1.heap.size + 1 := by subst hw2; simp
    clear hw2
    generalize hc : grownCap w1 A.size 0 5 = cap at *
    clear hc
    obtain ⟨hcell, hfz⟩ := hrow K (by rw [hll]; exact hK)
    have hrow2 : Row (w2.setCell ⟨w1.heap.size, K, none⟩ (.int .u8 y.toNat)) w1.heap.size l2 := by rw [HL2.out]; exact hrow.set K y
    have hbit : bits .xor .u8 ((l.getD K 0).toNat : Int) (bits .and .i64 by_ 255 % 256) = (y.toNat : Int) := by rw [HY.out]; exact byte_bits _ _
    obtain ⟨w3, hw3⟩ : ∃ w3, w3 = w2.setCell ⟨w1.heap.size, K, none⟩ (.int .u8 y.toNat) := ⟨_, rfl⟩
    rw [← hw3] at hrow2
    have hb3 : Below w1.heap.size w1 w3 := by rw [hw3]; exact hb2.setCell (Nat.le_refl _) _
    have hsz3 : w1.heap.size < w3.heap.size := by rw [hw3]; show w1.heap.size < (w2.setCell _ _).heap.size; simp [World.setCell]; omega
    have HW3 := Lib.hid hw3
    have b0 : (0 : Int) ≤ (K : Int) := by omega
    have b1 : (K : Int) < (A.size : Int) := by rw [HA.out]; omega
    clear hw3 hrow hb2 hsz
    generalize ((l.getD K 0).toNat : Int) = x0 at *
    go_upto_region 13 with (fail)
    rw [← HW3.out]
    have hback : ∀ W : World, Row W w1.heap.size l2 → (convert 36 9 (.slice (some ⟨w1.heap.size, 0, none⟩) A.size cap)).run Try.prog W = .ok (.string (txt l2)) W := by
      intro W h
      have := h.text cap
      rw [hl2l, ← HA.out] at this
      exact this
    have hbk3 := hback w3 hrow2
    clear hcell hfz hbit HW3
    go_wp2_with fail
    refine (CT.out _).mono ?_
    rintro e w4 ⟨rfl, hb4⟩
    have hbk4 := hback w4 (hrow2.below hb4 hsz3)
    have hb4' := hb3.trans (hb4.mono (Nat.le_of_lt hsz3))
    clear hbk3
    go_wp2_with fail
    refine (CS.out _).mono ?_
    rintro e w5 ⟨a, c, rfl, hb5⟩
    have hsz4 : w1.heap.size ≤ w4.heap.size := Nat.le_trans (Nat.le_of_lt hsz3) hb4.size
    have hb5' := hb4'.trans (hb5.mono hsz4)
    go_wp2_with fail
    refine (awake_any _).mono ?_
    rintro e w6 ⟨rfl, hb6⟩
    go_wp2_with fail
    go_ret
    exact ⟨rfl, hb1.trans ((hb5'.trans (hb6.mono (Nat.le_trans hsz4 hb5.size))).mono hb1.size)⟩

set_option maxRecDepth 100000 in
set_option maxHeartbeats 1600000 in
/-- no byte is turned: the place is one of the length's -/
theorem tells_mid (s : ByteArray) (at_ by_ m : Int) (K : Nat) (hs : s.size ≤ 4096)
    (hm : at_.tmod ((9 + s.size : Nat) : Int) = m) (hm0 : -9223372036854775807 ≤ m) (hm1 : m ≤ 9223372036854775807) (hmK : m < 0 → -m = K) (hmK2 : ¬ m < 0 → m = K) (hK1 : 1 ≤ K) (hK5 : K < 5)
    (hby : (bits .and .i64 by_ 255 == 0) = false) (w : World) :
    Calls Try.prog 6 #[.string s, .int .i64 at_, .int .i64 by_] w fun e w' => e = .returned (.bool true) ∧ Below w.heap.size w w' := by
  obtain ⟨A, hA⟩ : ∃ A, A = txt (Rec.putText s.data.toList) := ⟨_, rfl⟩
  have hAs : A.size = 9 + s.size := by rw [hA, txt_size, Rec.putText_length]; simp
  have cP : ∀ W, Calls Try.prog 10 #[.string s] W fun e w' => e = .returned (.tuple #[.string A, .int .i64 0]) ∧ Below W.heap.size W w' := by
    intro W; rw [hA]; exact put_ok s (by omega) W
  have hd2 : decide ((4096 : Int) < s.size) = false := by simp; omega
  have hd3 : decide ((A.size : Int) < 9) = false := by simp; omega
  have hx : (A.size : Int) = ((9 + s.size : Nat) : Int) := by rw [hAs]
  rw [← hx] at hm
  have HK := Lib.hid hmK
  have HK2 := Lib.hid hmK2
  have CP := Lib.hid cP
  have hA9 : ¬ (A.size : Int) = 0 := by omega
  clear hmK hmK2 cP hA hx hAs
  go_enter Try.func6, Try.ntmps6
  go_wp2_with fail
  refine (CP.out _).mono ?_
  rintro e w1 ⟨rfl, hb1⟩
  go_upto_if 42 with (fail)
  go_cut [9] (fun v wx => v = .int .i64 K ∧ w1 = wx)
  case first =>
    by_cases hneg : m < 0
    · go_wp2_with fail
      go_meet
      exact ⟨i64_eq (HK.out hneg), rfl⟩
    · go_wp2_with fail
      go_meet
      exact ⟨i64_eq (HK2.out hneg), rfl⟩
  case rest =>
  obtain ⟨rfl, rfl⟩ := hcut
  clear hm HK HK2
  have h1 : (1 : Int) ≤ (K : Int) := by omega
  have h5 : (K : Int) < 5 := by omega
  go_wp2_with fail
  refine (awake_any _).mono ?_
  rintro e w6 ⟨rfl, hb6⟩
  go_wp2_with fail
  go_ret
  exact ⟨rfl, hb1.trans (hb6.mono hb1.size)⟩

set_option maxRecDepth 100000 in
/-- FrameTells returns true -/
theorem lawTells (s : ByteArray) (at_ by_ : Int) (_hs : s.size ≤ maxLen) (h1 : (Lit.int .i64 at_).wf = true) (_h2 : (Lit.int .i64 by_).wf = true) (w : World) :
    Calls Try.prog 6 #[.string s, .int .i64 at_, .int .i64 by_] w fun e w' => e = .returned (.bool true) ∧ Below w.heap.size w w' := by
  have b1 := bounds_i64 h1
  by_cases h5 : s.size ≤ 4096
  · by_cases hby : (bits .and .i64 by_ 255 == 0) = true
    · have hd2 : decide ((4096 : Int) < s.size) = false := by simp; omega
      go_enter Try.func6, Try.ntmps6
      go_wp2_with fail
      refine (awake_any _).mono ?_
      rintro e w2 ⟨rfl, hb2⟩
      go_wp2_with fail
      go_ret
      exact ⟨rfl, hb2⟩
    · have hlt : (at_.tmod ((9 + s.size : Nat) : Int)).natAbs < 9 + s.size := by
        have := Int.natAbs_tmod at_ ((9 + s.size : Nat) : Int)
        rw [this]
        have e : (((9 + s.size : Nat) : Int)).natAbs = 9 + s.size := by omega
        rw [e]
        exact Nat.mod_lt _ (by omega)
      obtain ⟨m, hm⟩ : ∃ m, at_.tmod ((9 + s.size : Nat) : Int) = m := ⟨_, rfl⟩
      rw [hm] at hlt
      by_cases hK : 1 ≤ m.natAbs ∧ m.natAbs < 5
      · exact tells_mid s at_ by_ m m.natAbs h5 hm (by omega) (by omega) (by omega) (by omega) hK.1 hK.2 (by simpa using hby) w
      · exact tells_main s at_ by_ m m.natAbs h5 hm (by omega) (by omega) (by omega) (by omega) hlt (by omega) (by simpa using hby) w
  · have hd2 : decide ((4096 : Int) < s.size) = true := by simp; omega
    go_enter Try.func6, Try.ntmps6
    go_wp2_with fail
    refine (awake_any _).mono ?_
    rintro e w2 ⟨rfl, hb2⟩
    go_wp2_with fail
    go_ret
    exact ⟨rfl, hb2⟩
end Go.Proofs.Ytfjjckimgcofnaa
