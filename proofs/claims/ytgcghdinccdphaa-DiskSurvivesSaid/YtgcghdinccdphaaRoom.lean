/-
  The law DiskRoom: the bytes of all files are never more than the room; the call returns true and writes nothing that was there.
-/
import Derived.Test.YtgcghdinccdphaaAwake
import Derived.OpenShut
namespace Go.Proofs.Ytgcghdinccdphaa
open Go.RowKit

/-- a slice of texts that came in -/
def Came (w : World) (a : Option Addr) (n : Nat) (X : Nat → ByteArray) : Prop :=
  ∀ i, i < n → ∃ g o, a = some ⟨g, o, none⟩ ∧ w.cell? ⟨g, o + i, none⟩ = some (.string (X i)) ∧ g < w.heap.size ∧ (X i).size ≤ maxLen

theorem i64_and1023 (n : Int) : bits .and .i64 n 1023 = n % 1024 := by
  have h127 : (BitVec.ofInt 64 1023).toNat = 2 ^ 10 - 1 := by decide
  have key : (BitVec.ofInt 64 n &&& BitVec.ofInt 64 1023).toNat = (n % ((2 ^ 64 : Nat) : Int)).toNat % 2 ^ 10 := by
    rw [BitVec.toNat_and, BitVec.toNat_ofInt, h127, Nat.and_two_pow_sub_one_eq_mod]
  show IntKind.i64.wrap ((BitVec.ofInt 64 n &&& BitVec.ofInt 64 1023).toNat : Nat) = n % 1024
  rw [key, IntKind.wrap_i64]
  omega

set_option maxRecDepth 100000 in
set_option maxHeartbeats 1600000 in
theorem room_main (room : Int) (R : Nat) (hroom : bits .and .i64 room 1023 = ((R : Nat) : Int) - 1) (h1 : 1 ≤ R) (h2 : R ≤ 1024) (a : Option Addr) (n c : Nat) (X : Nat → ByteArray) (hnc : n ≤ c) (hcm : c ≤ maxLen) (w : World) (hcame : Came w a n X) :
    Calls Try.prog 5 #[.int .i64 room, .slice a n c] w fun e w' => e = .returned (.bool true) ∧ Below w.heap.size w w' := by
  unfold maxLen at hcm
  obtain ⟨m, hm⟩ : ∃ m, m = min n 100 := ⟨_, rfl⟩
  have hmn : m ≤ n := by omega
  have hm100 : m ≤ 100 := by omega
  have HMY := Lib.hid (show m < n → m = 100 by omega)
  have HMX := Lib.hid (show ¬ m < n → m = n by omega)
  have hw : (1 : Int) + ((R : Int) - 1) = (R : Int) := by omega
  have HW := Lib.hid hw
  have HC := Lib.hid hcame
  clear hm hcame hw
  go_enter Try.func5, Try.ntmps5
  go_wp2_with fail
  rw [HW.out]
  refine (new_disk R h1 (by omega) w).mono ?_
  rintro e w1 ⟨rfl, hD1, hK1⟩
  have h0 : total (fun _ => ([] : List UInt8)) 256 = 0 := total_nil 256
  have hst : ∃ F S, Hid (Disk w1 w.heap.size (fun b => b < w.heap.size) R F S) ∧ Hid (total F 256 = 0) := ⟨_, _, hD1, h0⟩
  have HST := Lib.hid hst
  have HK1 := Lib.hid hK1
  have HG : Hid (w.heap.size = w.heap.size) := rfl
  clear hD1 hK1 h0 hst hroom
  go_wp2_with fail
  go_loopw [8, 9] (fun u i wr => ∃ (k : Nat) (F : Nat → List UInt8) (S : Nat → Nat), k ≤ m ∧ i = .int .i64 k ∧ u = .int .i64 (total F 256 : Nat) ∧ Hid (Disk wr w.heap.size (fun b => b < w.heap.size) R F S) ∧ Hid (Kept (fun b => b < w.heap.size) w wr)) (fun _ i _ => m - (intOf i).toNat)
  case atStart =>
    obtain ⟨F, S, hD, ht⟩ := HST.out
    exact ⟨0, F, S, by omega, rfl, by rw [ht.out]; rfl, hD, HK1⟩
  case round =>
    clear HST HK1
    obtain ⟨k, F, S, hkm, rfl, rfl, HD, HK⟩ := hrel
    by_cases hlt : k < m
    · obtain ⟨b, o, rfl, hc, hb, hx⟩ := HC.out k (by omega)
      unfold maxLen at hx
      have hfit := HD.out.fits
      have hcw : wr.cell? ⟨b, o + k, none⟩ = some (.string (X k)) := (World.cell?_of_block (a := ⟨b, o + k, none⟩) (HK.out.block b hb)).trans hc
      have hk256 : k < 256 := by omega
      have k0 : (0 : Int) ≤ (k : Int) := by omega
      have k1 : (k : Int) < (n : Int) := by omega
      have k2 : (k : Int) < 100 := by omega
      have hln := HD.out.len hk256
      have HCB := Lib.hid hc
      have hbw : b < w.heap.size := hb
      clear hc
      obtain ⟨u, hu⟩ : ∃ u, u = total F 256 := ⟨_, rfl⟩
      obtain ⟨lk, hlk⟩ : ∃ lk, lk = (F k).length := ⟨_, rfl⟩
      have HU := Lib.hid hu
      have HLK := Lib.hid hlk
      rw [← hu] at hfit ⊢
      rw [← hlk] at hln
      clear hu hlk
      go_wp2_with fail
      refine (size_disk HD.out hk256).mono ?_
      rintro e w2 ⟨rfl, hD2, hK2⟩
      rw [← HLK.out]
      have HD2 := Lib.hid hD2
      have HK2 := Lib.hid (HK.out.trans hK2)
      have hc2 : w2.cell? ⟨b, o + k, none⟩ = some (.string (X k)) := (World.cell?_of_block (a := ⟨b, o + k, none⟩) (HK2.out.block b hb)).trans HCB.out
      clear hD2 hK2 hcw
      go_wp2_with fail
      by_cases hroom2 : (X k).size + u ≤ R
      · refine (add_ok HD2.out hk256 (X k) (by rw [← HU.out]; exact hroom2)).mono ?_
        rintro e w3 ⟨rfl, hD3, hK3⟩
        have HD3 := Lib.hid hD3
        have HK3 := Lib.hid (HK2.out.trans hK3)
        have hc3 : w3.cell? ⟨b, o + k, none⟩ = some (.string (X k)) := (World.cell?_of_block (a := ⟨b, o + k, none⟩) (HK3.out.block b hb)).trans HCB.out
        have hmin : ¬ ((R : Int) + 1 < ((X k).size : Int)) := by omega
        have htl : (F k ++ (X k).data.toList).length = (F k).length + (X k).size := by simp
        have hlen2 : ((upd F k (F k ++ (X k).data.toList) k).length : Nat) = lk + (X k).size := by rw [upd_same, htl, ← HLK.out]
        have htot2 : (total (upd F k (F k ++ (X k).data.toList)) 256 : Nat) = u + (X k).size := by
          have := total_upd F k 256 (F k ++ (X k).data.toList)
          rw [if_pos hk256, if_pos hk256, htl, ← HU.out] at this
          omega
        have HLEN2 := Lib.hid hlen2
        have HTOT2 := Lib.hid htot2
        clear hD3 hK3 hc2 htl hlen2 htot2
        go_wp2_with fail
        refine (size_disk HD3.out hk256).mono ?_
        rintro e w4 ⟨rfl, hD4, hK4⟩
        rw [HLEN2.out]
        have HD4 := Lib.hid hD4
        have HK4 := Lib.hid (HK3.out.trans hK4)
        clear hD4 hK4 hc3
        go_wp2_with fail
        refine (used_disk HD4.out).mono ?_
        rintro e w5 ⟨rfl, rfl⟩
        rw [HTOT2.out]
        go_wp2_with fail
        go_roundw
        case rel => exact ⟨k + 1, _, _, by omega, i64_eq (by omega), by rw [HTOT2.out]; exact i64_eq (by omega), HD4.out, HK4.out⟩
        case measure => simp [intOf]; omega
      · refine (add_full HD2.out hk256 (X k) (by unfold maxLen; omega) (by rw [← HU.out]; omega)).mono ?_
        rintro e w3 ⟨rfl, hD3, hK3⟩
        have HD3 := Lib.hid hD3
        have HK3 := Lib.hid (HK2.out.trans hK3)
        have hc3 : w3.cell? ⟨b, o + k, none⟩ = some (.string (X k)) := (World.cell?_of_block (a := ⟨b, o + k, none⟩) (HK3.out.block b hb)).trans HCB.out
        clear hD3 hK3 hc2
        have hsplit : ((R : Int) + 1 < ((X k).size : Int)) ∨ ¬ ((R : Int) + 1 < ((X k).size : Int)) := by omega
        rcases hsplit with hmin | hmin
        all_goals
          go_wp2_with fail
          refine (size_disk HD3.out hk256).mono ?_
          rintro e w4 ⟨rfl, hD4, hK4⟩
          rw [← HLK.out]
          have HD4 := Lib.hid hD4
          have HK4 := Lib.hid (HK3.out.trans hK4)
          clear hD4 hK4
          go_wp2_with fail
          refine (used_disk HD4.out).mono ?_
          rintro e w5 ⟨rfl, rfl⟩
          rw [← HU.out]
          go_wp2_with fail
          go_roundw
          case rel => exact ⟨k + 1, _, _, by omega, i64_eq (by omega), by rw [← HU.out], HD4.out, HK4.out⟩
          case measure => simp [intOf]; omega
    · obtain rfl : k = m := by omega
      have hguard : (¬ (k : Int) < (n : Int)) ∨ ((k : Int) < (n : Int) ∧ ¬ (k : Int) < 100) := by
        by_cases h : k < n
        · right
          have := HMY.out h
          subst this
          simp; omega
        · left; omega
      have hbel := HK.out.below (B := w.heap.size) (fun x hx => hx)
      rcases hguard with g1 | ⟨g1, g2⟩
      all_goals
        go_wp2_with fail
        refine (awake_any _).mono ?_
        rintro e w4 ⟨rfl, hb4⟩
        go_wp2_with fail
        go_ret
        exact ⟨rfl, hbel.trans (hb4.mono hbel.size)⟩
/-- DiskRoom returns true -/
theorem lawRoom (room : Int) (_ : (Lit.int .i64 room).wf = true) (a : Option Addr) (n c : Nat) (X : Nat → ByteArray) (hnc : n ≤ c) (hcm : c ≤ maxLen) (w : World) (hcame : Came w a n X) :
    Calls Try.prog 5 #[.int .i64 room, .slice a n c] w fun e w' => e = .returned (.bool true) ∧ Below w.heap.size w w' :=
  room_main room ((room % 1024).toNat + 1) (by rw [i64_and1023]; omega) (by omega) (by omega) a n c X hnc hcm w hcame
end Go.Proofs.Ytgcghdinccdphaa
