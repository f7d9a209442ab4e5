/-
  awake of the laws of package disk: it returns true and writes nothing that was there.
-/
import Derived.Test.YtgcghdinccdphaaOpsF
namespace Go.Proofs.Ytgcghdinccdphaa
open Go.RowKit

/-- New, read as a disk -/
theorem new_disk (r : Nat) (h0 : 1 ≤ r) (h1 : r ≤ 16777216) (w : World) :
    Calls Try.prog 8 #[.int .i64 r] w fun e w' => e = .returned (.tuple #[.pointer (some ⟨w.heap.size, 0, none⟩), .int .i64 0]) ∧
      Disk w' w.heap.size (fun b => b < w.heap.size) r (fun _ => []) (fun _ => 0) ∧ Kept (fun b => b < w.heap.size) w w' := by
  refine (new_ok r h0 h1 w).mono ?_
  rintro e w' ⟨he, rfl⟩
  exact ⟨he, Disk.new w r h0 h1, ⟨rfl, rfl, rfl, by simp, fun b hb => Below.heap_alloc w _ b hb⟩⟩
/-- Size, read as a disk -/
theorem size_disk {g r : Nat} {N : Nat → Prop} {F : Nat → List UInt8} {S : Nat → Nat} {w : World} (h : Disk w g N r F S) {k : Nat} (hk : k < 256) :
    Calls Try.prog 13 #[.pointer (some ⟨g, 0, none⟩), .int .i64 k] w fun e w' => e = .returned (.tuple #[.int .i64 ((F k).length : Nat), .int .i64 (S k : Nat)]) ∧ Disk w' g N r F S ∧ Kept N w w' := by
  obtain ⟨V, h⟩ := h
  refine (size_ok h hk).mono ?_
  rintro e w' ⟨he, n, rfl⟩
  exact ⟨he, ⟨V, h.drewN n⟩, (Kept.refl N w).drewN n⟩
theorem bytes_disk {g r : Nat} {N : Nat → Prop} {F : Nat → List UInt8} {S : Nat → Nat} {w : World} (h : Disk w g N r F S) {k : Nat} (hk : k < 256) (i m : Nat) (him : i + m ≤ (F k).length) :
    Calls Try.prog 14 #[.pointer (some ⟨g, 0, none⟩), .int .i64 k, .int .i64 i, .int .i64 m] w fun e w' => e = .returned (.tuple #[.string (txt (((F k).drop i).take m)), .int .i64 0]) ∧ w = w' := by
  obtain ⟨V, h⟩ := h
  exact bytes_ok h hk i m him
theorem used_disk {g r : Nat} {N : Nat → Prop} {F : Nat → List UInt8} {S : Nat → Nat} {w : World} (h : Disk w g N r F S) :
    Calls Try.prog 16 #[.pointer (some ⟨g, 0, none⟩)] w fun e w' => e = .returned (.int .i64 (total F 256 : Nat)) ∧ w = w' := by
  obtain ⟨V, h⟩ := h
  exact used_any h

theorem total_nil (n : Nat) : total (fun _ => []) n = 0 := by induction n with | zero => rfl | succ n ih => exact ih
theorem total_only (k : Nat) (hk : k < 256) (l : List UInt8) : total (upd (fun _ => []) k l) 256 = l.length := by
  have := total_upd (fun _ => []) k 256 l
  rw [if_pos hk, if_pos hk, total_nil] at this
  simpa using this
def aF : Nat → List UInt8 := upd (fun _ => []) 0 [97, 98, 99, 100, 101]
def aS : Nat → Nat := synced (upd (fun _ => []) 0 [97, 98]) (fun _ => 0) 256
theorem aS_zero : aS 0 = 2 := by decide
theorem aF_zero : aF 0 = [97, 98, 99, 100, 101] := rfl
theorem aS_more (i : Nat) (h : i ≠ 0) : aS i = 0 := by
  unfold aS synced
  rw [upd_other _ _ _ _ h]
  split <;> rfl
theorem aF_more (i : Nat) (h : i ≠ 0) : aF i = [] := upd_other _ _ _ _ h
theorem a_first : crashed aF aS [2] 1 0 = [97, 98, 99, 101] := by decide
theorem a_crash : crashF aF aS [2] 1 256 = upd (fun _ => []) 0 [97, 98, 99, 101] := by
  funext i
  unfold crashF
  by_cases h : i = 0
  · subst h
    rw [if_pos (by omega), a_first, upd_same]
  · rw [upd_other _ _ _ _ h]
    split
    · unfold crashed
      rw [aS_more i h, aF_more i h]
      rfl
    · exact aF_more i h
theorem a_sure : crashS aF aS [2] 1 256 0 = 4 := by
  unfold crashS
  rw [if_pos (by omega), a_first]
  rfl

set_option maxRecDepth 100000 in
set_option maxHeartbeats 1600000 in
/-- awake -/
theorem awake_any (w : World) : Calls Try.prog 9 #[] w fun e w' => e = .returned (.bool true) ∧ Below w.heap.size w w' := by
  go_enter Try.func9, Try.ntmps9
  go_wp2_with fail
  refine (new_disk 8 (by omega) (by omega) w).mono ?_
  rintro e w1 ⟨rfl, hD1, hK1⟩
  obtain ⟨g, hg⟩ : ∃ g, g = w.heap.size := ⟨_, rfl⟩
  rw [← hg] at hD1 hK1
  rw [← hg]
  have HG := Lib.hid hg
  have HD1 := Lib.hid hD1
  have HK1 := Lib.hid hK1
  clear hg hD1 hK1
  go_wp2_with fail
  refine (add_ok HD1.out (k := 0) (by omega) ⟨#[97, 98]⟩ (by rw [total_nil]; decide)).mono ?_
  rintro e w2 ⟨rfl, hD2, hK2⟩
  have HD2 := Lib.hid hD2
  have HK2 := Lib.hid (HK1.out.trans hK2)
  clear hD2 hK2
  go_wp2_with fail
  refine (sync_ok HD2.out).mono ?_
  rintro e w3 ⟨rfl, hD3, hK3⟩
  have HD3 := Lib.hid hD3
  have HK3 := Lib.hid (HK2.out.trans hK3)
  clear hD3 hK3
  go_wp2_with fail
  refine (add_ok HD3.out (k := 0) (by omega) ⟨#[99, 100, 101]⟩ (by
    have : total (upd (fun _ => []) 0 ([] ++ [97, 98])) 256 = 2 := total_only 0 (by omega) _
    rw [this]; decide)).mono ?_
  rintro e w4 ⟨rfl, hD4, hK4⟩
  have e4 : upd (upd (fun _ => ([] : List UInt8)) 0 ([] ++ [97, 98])) 0 (upd (fun _ => ([] : List UInt8)) 0 ([] ++ [97, 98]) 0 ++ [99, 100, 101]) = aF := by
    funext i; unfold upd aF upd; split <;> simp_all
  have HD4 : Hid (Disk w4 g (fun b => b < g) 8 aF aS) := by rw [← e4]; exact hD4
  have HK4 := Lib.hid (HK3.out.trans hK4)
  clear hD4 hK4 e4
  go_wp2_with fail
  refine (swap_loose HD4.out (a := 0) (b := 1) (by omega) (by omega) (.inl (by rw [aS_zero, aF_zero]; decide))).mono ?_
  rintro e w5 ⟨rfl, hD5, hK5⟩
  have HD5 := Lib.hid hD5
  have HK5 := Lib.hid (HK4.out.trans hK5)
  clear hD5 hK5
  go_wp2_with fail
  refine (add_full HD5.out (k := 3) (by omega) ⟨#[49, 50, 51, 52]⟩ (by decide) (by
    have : total aF 256 = 5 := total_only 0 (by omega) _
    rw [this]; decide)).mono ?_
  rintro e w6 ⟨rfl, hD6, hK6⟩
  have HD6 := Lib.hid hD6
  have HK6 := Lib.hid (HK5.out.trans hK6)
  clear hD6 hK6
  go_wp2_with fail
  have hb7 : Below w6.heap.size w6 (w6.alloc (.cells #[.int .i64 2] 3)) := (Below.refl _ _).alloc (Nat.le_refl _) _
  have hD7 := HD6.out.below hb7
  have hI7 : Ints (w6.alloc (.cells #[.int .i64 2] 3)) (fun b => b < g ∨ (w6.heap.size ≤ b ∧ b < (w6.alloc (.cells #[.int .i64 2] 3)).heap.size)) (.slice (some ⟨w6.heap.size, 0, none⟩) 1 1) [2] := by
    refine ⟨some ⟨w6.heap.size, 0, none⟩, 1, rfl, Nat.le_refl _, by unfold maxLen; omega, by simp, .inr ⟨w6.heap.size, 0, rfl, .inr ⟨Nat.le_refl _, by simp⟩, fun j hj => ?_⟩⟩
    obtain rfl : j = 0 := by simpa using hj
    exact cell_of_row _ _ _ _ _ _ (heap_alloc_new w6 _)
  have HI7 := Lib.hid hI7
  have HD7 := Lib.hid hD7
  have HK7 := Lib.hid (HK6.out.trans (Kept.of_below hb7 HD6.out.lt))
  clear hb7 hD7 hI7
  refine (crash_ok HD7.out HI7.out 1 1 (by decide)).mono ?_
  rintro e w8 ⟨rfl, hD8, hK8⟩
  have HD8 : Hid (Disk w8 g (fun b => b < g) 8 (upd (fun _ => []) 0 [97, 98, 99, 101]) (crashS aF aS [2] 1 256)) := by
    rw [← a_crash]
    exact hD8.less (fun b hb => .inl hb)
  have HK8 := Lib.hid (HK7.out.trans (hK8.less (fun b hb => .inl hb)))
  clear hD8 hK8
  go_wp2_with fail
  refine (bytes_disk HD8.out (k := 0) (by omega) 0 4 (by decide)).mono ?_
  rintro e w9 ⟨rfl, rfl⟩
  have ht : txt (((upd (fun _ => ([] : List UInt8)) 0 [97, 98, 99, 101] 0).drop 0).take 4) = ⟨#[97, 98, 99, 101]⟩ := rfl
  rw [ht]
  clear ht
  go_wp2_with fail
  refine (size_disk HD8.out (k := 0) (by omega)).mono ?_
  rintro e w10 ⟨rfl, hD10, hK10⟩
  have hl : ((upd (fun _ => ([] : List UInt8)) 0 [97, 98, 99, 101] 0).length : Nat) = 4 := rfl
  rw [hl, a_sure]
  have HD10 := Lib.hid hD10
  have HK10 := Lib.hid (HK8.out.trans hK10)
  clear hD10 hK10 hl
  go_wp2_with fail
  refine (used_disk HD10.out).mono ?_
  rintro e w11 ⟨rfl, rfl⟩
  have ht : (total (upd (fun _ => ([] : List UInt8)) 0 [97, 98, 99, 101]) 256 : Nat) = 4 := total_only 0 (by omega) _
  rw [ht]
  clear ht
  go_wp2_with fail
  go_ret
  exact ⟨rfl, HK10.out.below (fun x hx => HG.out ▸ hx)⟩
end Go.Proofs.Ytgcghdinccdphaa
