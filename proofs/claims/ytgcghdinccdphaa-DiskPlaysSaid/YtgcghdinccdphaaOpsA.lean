/-
  The functions of package disk that read: of, Used, Size, Bytes.
-/
import Derived.Test.YtgcghdinccdphaaDk
import Derived.WalkLawsBesides
import Derived.WalkSpells
namespace Go.Proofs.Ytgcghdinccdphaa
open Go.RowKit

set_option maxRecDepth 100000 in
theorem of_ok (g : Nat) (r : Nat) (hr : 1 ≤ r) (k : Nat) (hk : k < 256) (w : World) (h0 : w.cell? ⟨g, 0, none⟩ = some (.int .i64 r)) :
    Calls Try.prog 21 #[.pointer (some ⟨g, 0, none⟩), .int .i64 k] w fun e w' => e = .returned (.pointer (some ⟨g, 1 + k * 2, none⟩)) ∧ w = w' := by
  have h1 : ((r : Int) == 0) = false := by simp; omega
  have k0 : ¬ (k : Int) < 0 := by omega
  have k1 : (k : Int) < 256 := by omega
  go_enter Try.func21, Try.ntmps21
  go_wp2_with fail
  go_ret
  exact ⟨rfl, rfl⟩
set_option maxRecDepth 100000 in
theorem of_no (g : Nat) (r : Nat) (hr : 1 ≤ r) (k : Int) (hk : k < 0 ∨ 256 ≤ k) (w : World) (h0 : w.cell? ⟨g, 0, none⟩ = some (.int .i64 r)) :
    Calls Try.prog 21 #[.pointer (some ⟨g, 0, none⟩), .int .i64 k] w fun e w' => e = .returned (.pointer none) ∧ w = w' := by
  have h1 : ((r : Int) == 0) = false := by simp; omega
  rcases hk with k0 | k0
  · go_enter Try.func21, Try.ntmps21
    go_wp2_with fail
    go_ret
    exact ⟨rfl, rfl⟩
  · have k1 : ¬ k < 0 := by omega
    go_enter Try.func21, Try.ntmps21
    go_wp2_with fail
    go_ret
    exact ⟨rfl, rfl⟩

set_option maxRecDepth 100000 in
set_option maxHeartbeats 1600000 in
/-- Used -/
theorem used_any {g r : Nat} {N : Nat → Prop} {V : Nat → Value} {F : Nat → List UInt8} {S : Nat → Nat} {w : World} (h : Dk w g N V r F S) :
    Calls Try.prog 16 #[.pointer (some ⟨g, 0, none⟩)] w fun e w' => e = .returned (.int .i64 (total F 256 : Nat)) ∧ w = w' := by
  have H := Lib.hid h
  have hf := h.fits
  have hr := h.r2
  clear h
  go_enter Try.func16, Try.ntmps16
  go_wp2_with fail
  go_loop [3, 4, 7] (fun s _ i => ∃ k : Nat, k ≤ 256 ∧ i = .int .i64 k ∧ s = .int .i64 (total F k : Nat)) (fun _ _ i => 256 - (intOf i).toNat)
  case atStart => exact ⟨0, by omega, rfl, rfl⟩
  case round =>
    obtain ⟨k, hk, rfl, rfl⟩ := hrel
    by_cases hlt : k < 256
    · have hb := H.out.byt k hlt
      obtain ⟨a, c, hV, _⟩ := H.out.slice hlt
      rw [hV] at hb
      have ht : total F (k + 1) = total F k + (F k).length := rfl
      have hm := total_mono F (show k + 1 ≤ 256 by omega)
      have hb2 : total F k + (F k).length ≤ 16777216 := by omega
      have HT := Lib.hid ht
      clear hV ht hm
      generalize (F k).length = n at *
      generalize total F k = s at *
      go_wp2_with fail
      go_round
      case rel => exact ⟨k + 1, by omega, i64_eq (by omega), by rw [HT.out]; exact i64_eq (by omega)⟩
      case measure => simp [intOf]; omega
    · obtain rfl : k = 256 := by omega
      go_wp2_with fail
      go_ret
      exact ⟨rfl, rfl⟩

set_option maxRecDepth 100000 in
set_option maxHeartbeats 1600000 in
/-- Size of a file -/
theorem size_ok {g r : Nat} {N : Nat → Prop} {V : Nat → Value} {F : Nat → List UInt8} {S : Nat → Nat} {w : World} (h : Dk w g N V r F S) {k : Nat} (hk : k < 256) :
    Calls Try.prog 13 #[.pointer (some ⟨g, 0, none⟩), .int .i64 k] w fun e w' => e = .returned (.tuple #[.int .i64 ((F k).length : Nat), .int .i64 (S k : Nat)]) ∧ ∃ n, w' = w.drewN n := by
  have hb := h.byt k hk
  have hs := h.sur k hk
  obtain ⟨a, c, hV, _⟩ := h.slice hk
  rw [hV] at hb
  have ho := of_ok g r h.r1 k hk
  have HO := Lib.hid ho
  have hroom := h.room
  clear ho hV h
  go_enter Try.func13, Try.ntmps13
  go_wp2_with fail
  refine (HO.out _ hroom).mono ?_
  rintro e w1 ⟨rfl, rfl⟩
  clear hroom
  go_wp2_with fail
  go_quiet (fail)
  go_wp2_with fail
  go_ret2
  exact ⟨rfl, _, rfl⟩
set_option maxRecDepth 100000 in
theorem size_no {g r : Nat} {N : Nat → Prop} {V : Nat → Value} {F : Nat → List UInt8} {S : Nat → Nat} {w : World} (h : Dk w g N V r F S) {k : Int} (hk : k < 0 ∨ 256 ≤ k) :
    Calls Try.prog 13 #[.pointer (some ⟨g, 0, none⟩), .int .i64 k] w fun e w' => e = .returned (.tuple #[.int .i64 0, .int .i64 0]) ∧ w = w' := by
  have HO := Lib.hid (of_no g r h.r1 k hk w h.room)
  clear h hk
  go_enter Try.func13, Try.ntmps13
  go_wp2_with fail
  refine HO.out.mono ?_
  rintro e w1 ⟨rfl, rfl⟩
  go_wp2_with fail
  go_ret2
  exact ⟨rfl, rfl⟩
end Go.Proofs.Ytgcghdinccdphaa
