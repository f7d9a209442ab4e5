/-
  The law DiskNobody: a disk that nobody made answers nothing; the call returns true and writes nothing that was there.
-/
import Derived.Test.YtgcghdinccdphaaAwake
namespace Go.Proofs.Ytgcghdinccdphaa
open Go.RowKit

/-- a disk that nobody made -/
def Nobody (w : World) (p : Option Addr) : Prop := p = none ∨ ∃ g, p = some ⟨g, 0, none⟩ ∧ w.cell? ⟨g, 0, none⟩ = some (.int .i64 0) ∧ ∀ k, k < 256 → w.cell? ⟨g, 1 + k * 2, none⟩ = some (.slice none 0 0)

set_option maxRecDepth 100000 in
theorem of_nobody {w : World} {p : Option Addr} (h : Nobody w p) (k : Int) : Calls Try.prog 21 #[.pointer p, .int .i64 k] w fun e w' => e = .returned (.pointer none) ∧ w = w' := by
  rcases h with rfl | ⟨g, rfl, h0, _⟩
  · go_enter Try.func21, Try.ntmps21
    go_wp2_with fail
    go_ret
    exact ⟨rfl, rfl⟩
  · go_enter Try.func21, Try.ntmps21
    go_wp2_with fail
    go_ret
    exact ⟨rfl, rfl⟩
set_option maxRecDepth 100000 in
theorem bytes_nobody {w : World} {p : Option Addr} (h : Nobody w p) (k i m : Int) : Calls Try.prog 14 #[.pointer p, .int .i64 k, .int .i64 i, .int .i64 m] w fun e w' => e = .returned (.tuple #[.string ⟨#[]⟩, .int .i64 1]) ∧ w = w' := by
  have HO := Lib.hid (of_nobody h k)
  clear h
  go_enter Try.func14, Try.ntmps14
  go_wp2_with fail
  refine HO.out.mono ?_
  rintro e w1 ⟨rfl, rfl⟩
  go_wp2_with fail
  go_ret2
  exact ⟨rfl, rfl⟩
set_option maxRecDepth 100000 in
theorem size_nobody {w : World} {p : Option Addr} (h : Nobody w p) (k : Int) : Calls Try.prog 13 #[.pointer p, .int .i64 k] w fun e w' => e = .returned (.tuple #[.int .i64 0, .int .i64 0]) ∧ w = w' := by
  have HO := Lib.hid (of_nobody h k)
  clear h
  go_enter Try.func13, Try.ntmps13
  go_wp2_with fail
  refine HO.out.mono ?_
  rintro e w1 ⟨rfl, rfl⟩
  go_wp2_with fail
  go_ret2
  exact ⟨rfl, rfl⟩
set_option maxRecDepth 100000 in
theorem add_nobody {w : World} {p : Option Addr} (h : Nobody w p) (k : Int) (s : ByteArray) : Calls Try.prog 10 #[.pointer p, .int .i64 k, .string s] w fun e w' => e = .returned (.int .i64 1) ∧ w = w' := by
  have HO := Lib.hid (of_nobody h k)
  clear h
  go_enter Try.func10, Try.ntmps10
  go_wp2_with fail
  refine HO.out.mono ?_
  rintro e w1 ⟨rfl, rfl⟩
  go_wp2_with fail
  go_ret
  exact ⟨rfl, rfl⟩
set_option maxRecDepth 100000 in
theorem trim_nobody {w : World} {p : Option Addr} (h : Nobody w p) (k n : Int) : Calls Try.prog 20 #[.pointer p, .int .i64 k, .int .i64 n] w fun e w' => e = .returned (.int .i64 1) ∧ w = w' := by
  have HO := Lib.hid (of_nobody h k)
  clear h
  go_enter Try.func20, Try.ntmps20
  go_wp2_with fail
  refine HO.out.mono ?_
  rintro e w1 ⟨rfl, rfl⟩
  go_wp2_with fail
  go_ret
  exact ⟨rfl, rfl⟩
set_option maxRecDepth 100000 in
theorem sync_nobody {w : World} {p : Option Addr} (h : Nobody w p) : Calls Try.prog 11 #[.pointer p] w fun e w' => e = .returned (.int .i64 1) ∧ w = w' := by
  have HO := Lib.hid (of_nobody h 0)
  clear h
  go_enter Try.func11, Try.ntmps11
  go_wp2_with fail
  refine HO.out.mono ?_
  rintro e w1 ⟨rfl, rfl⟩
  go_wp2_with fail
  go_ret
  exact ⟨rfl, rfl⟩
set_option maxRecDepth 100000 in
theorem swap_nobody {w : World} {p : Option Addr} (h : Nobody w p) (a b : Int) : Calls Try.prog 15 #[.pointer p, .int .i64 a, .int .i64 b] w fun e w' => e = .returned (.int .i64 1) ∧ w = w' := by
  have HO := Lib.hid (fun k => of_nobody h k)
  clear h
  go_enter Try.func15, Try.ntmps15
  go_wp2_with fail
  refine (HO.out _).mono ?_
  rintro e w1 ⟨rfl, rfl⟩
  go_wp2_with fail
  refine (HO.out _).mono ?_
  rintro e w1 ⟨rfl, rfl⟩
  go_wp2_with fail
  go_ret
  exact ⟨rfl, rfl⟩
set_option maxRecDepth 100000 in
theorem crash_nobody {w : World} {p : Option Addr} (h : Nobody w p) (v : Value) (n : Int) : Calls Try.prog 12 #[.pointer p, v, .int .i64 n] w fun e w' => e = .returned (.int .i64 1) ∧ w = w' := by
  have HO := Lib.hid (of_nobody h 0)
  clear h
  go_enter Try.func12, Try.ntmps12
  go_wp2_with fail
  refine HO.out.mono ?_
  rintro e w1 ⟨rfl, rfl⟩
  go_wp2_with fail
  go_ret
  exact ⟨rfl, rfl⟩
set_option maxRecDepth 100000 in
set_option maxHeartbeats 1600000 in
theorem used_nobody {w : World} {p : Option Addr} (h : Nobody w p) : Calls Try.prog 16 #[.pointer p] w fun e w' => e = .returned (.int .i64 0) ∧ w = w' := by
  rcases h with rfl | ⟨g, rfl, h0, hc⟩
  · go_enter Try.func16, Try.ntmps16
    go_wp2_with fail
    go_ret
    exact ⟨rfl, rfl⟩
  · have HC := Lib.hid hc
    clear hc h0
    go_enter Try.func16, Try.ntmps16
    go_wp2_with fail
    go_loop [3, 4, 7] (fun s _ i => ∃ k : Nat, k ≤ 256 ∧ i = .int .i64 k ∧ s = .int .i64 0) (fun _ _ i => 256 - (intOf i).toNat)
    case atStart => exact ⟨0, by omega, rfl, rfl⟩
    case round =>
      obtain ⟨k, hk, rfl, rfl⟩ := hrel
      by_cases hlt : k < 256
      · have hb := HC.out k hlt
        go_wp2_with fail
        go_round
        case rel => exact ⟨k + 1, by omega, i64_eq (by omega), rfl⟩
        case measure => simp [intOf]; omega
      · obtain rfl : k = 256 := by omega
        go_wp2_with fail
        go_ret
        exact ⟨rfl, rfl⟩

set_option maxRecDepth 100000 in
set_option maxHeartbeats 1600000 in
/-- DiskNobody returns true -/
theorem lawNobody (n : Int) (s : ByteArray) (_ : (Lit.int .i64 n).wf = true) (_ : s.size ≤ maxLen) (w : World) :
    Calls Try.prog 7 #[.int .i64 n, .string s] w fun e w' => e = .returned (.bool true) ∧ Below w.heap.size w w' := by
  go_enter Try.func7, Try.ntmps7
  go_wp2_with (refine wpList_zero rfl rfl ?_)
  have hbel : Below w.heap.size w ((w.alloc (.cells (newCells 0) 59)).alloc (.cells #[.pointer none, .pointer (some ⟨w.heap.size, 0, none⟩)] 24)) :=
    ((Below.refl _ _).alloc (Nat.le_refl _) _).alloc (by simp) _
  have h1 : ((w.alloc (.cells (newCells 0) 59)).alloc (.cells #[.pointer none, .pointer (some ⟨w.heap.size, 0, none⟩)] 24)).heap[w.heap.size + 1]? = some (.cells #[.pointer none, .pointer (some ⟨w.heap.size, 0, none⟩)] 24 (0, 0)) := heap_alloc2_new w _ _
  have h0 : ((w.alloc (.cells (newCells 0) 59)).alloc (.cells #[.pointer none, .pointer (some ⟨w.heap.size, 0, none⟩)] 24)).heap[w.heap.size]? = some (.cells (newCells 0) 59 (0, 0)) := by
    rw [Below.heap_alloc _ _ _ (by simp)]
    exact heap_alloc_new w _
  generalize (w.alloc (.cells (newCells 0) 59)).alloc (.cells #[.pointer none, .pointer (some ⟨w.heap.size, 0, none⟩)] 24) = w1 at *
  have hn0 : Nobody w1 none := .inl rfl
  have hn1 : Nobody w1 (some ⟨w.heap.size, 0, none⟩) := by
    refine .inr ⟨w.heap.size, rfl, ?_, fun k hk => ?_⟩
    · rw [cell_of_row _ _ _ _ _ _ h0]
      simp only [newCells, List.getElem?_toArray, List.getElem?_cons_zero]
    · rw [cell_of_row _ _ _ _ _ _ h0]
      simp only [newCells, List.getElem?_toArray]
      rw [show 1 + k * 2 = k * 2 + 1 by omega, List.getElem?_cons_succ]
      exact (rep_get 256 k _ _ hk).1
  have hc : ∀ i : Nat, i < 2 → ∃ p, Nobody w1 p ∧ w1.cell? ⟨w.heap.size + 1, i, none⟩ = some (.pointer p) := by
    intro i hi
    rcases (by omega : i = 0 ∨ i = 1) with rfl | rfl
    · exact ⟨none, hn0, by rw [cell_of_row _ _ _ _ _ _ h1]; rfl⟩
    · exact ⟨some ⟨w.heap.size, 0, none⟩, hn1, by rw [cell_of_row _ _ _ _ _ _ h1]; rfl⟩
  have HC := Lib.hid hc
  have HB := Lib.hid hbel
  clear hc hbel h1 h0 hn0 hn1
  go_loop [6] (fun v => ∃ i : Nat, i ≤ 2 ∧ v = .int .i64 i) (fun v => 2 - (intOf v).toNat)
  case atStart => exact ⟨0, by omega, rfl⟩
  case round =>
    obtain ⟨i, hi, rfl⟩ := hrel
    by_cases hlt : i < 2
    · obtain ⟨p, hp, hcell⟩ := HC.out i hlt
      have HP := Lib.hid hp
      have hi2 : (i : Int) < 2 := by omega
      clear hp
      go_wp2_with fail
      refine (bytes_nobody HP.out _ _ _).mono ?_
      rintro e w2 ⟨rfl, rfl⟩
      go_wp2_with fail
      refine (size_nobody HP.out _).mono ?_
      rintro e w2 ⟨rfl, rfl⟩
      go_wp2_with fail
      refine (add_nobody HP.out _ _).mono ?_
      rintro e w2 ⟨rfl, rfl⟩
      go_wp2_with fail
      refine (trim_nobody HP.out _ _).mono ?_
      rintro e w2 ⟨rfl, rfl⟩
      go_wp2_with fail
      refine (sync_nobody HP.out).mono ?_
      rintro e w2 ⟨rfl, rfl⟩
      go_wp2_with fail
      refine (swap_nobody HP.out _ _).mono ?_
      rintro e w2 ⟨rfl, rfl⟩
      go_wp2_with fail
      refine (used_nobody HP.out).mono ?_
      rintro e w2 ⟨rfl, rfl⟩
      go_wp2_with fail
      refine (crash_nobody HP.out _ _).mono ?_
      rintro e w2 ⟨rfl, rfl⟩
      go_wp2_with fail
      go_round
      case rel => exact ⟨i + 1, by omega, i64_eq (by omega)⟩
      case measure => simp [intOf]; omega
    · have hi2 : ¬ (i : Int) < 2 := by omega
      go_wp2_with fail
      refine (awake_any _).mono ?_
      rintro e w2 ⟨rfl, hb2⟩
      go_wp2_with fail
      go_ret
      exact ⟨rfl, HB.out.trans (hb2.mono HB.out.size)⟩
end Go.Proofs.Ytgcghdinccdphaa
