/-
  The law NetNobody: a net that nobody made answers nothing; the call returns true and writes nothing that was there.
-/
import Derived.Test.YtflaghnbbfdamaaNetI
import Derived.Laws.StructEq
namespace Go.Proofs.Ytflaghnbbfdamaa
open Go.RowKit

/-- a net that nobody made -/
def Nobody (w : World) (p : Option Addr) : Prop := p = none ∨ ∃ g, p = some ⟨g, 0, none⟩ ∧ w.cell? ⟨g, 0, none⟩ = some (.int .i64 0)
theorem Nobody.below {w w' : World} {p : Option Addr} (h : Nobody w p) (hb : Below w.heap.size w w') : Nobody w' p := by
  rcases h with rfl | ⟨g, rfl, h0⟩
  · exact .inl rfl
  · exact .inr ⟨g, rfl, (hb.cell (p := ⟨g, 0, none⟩) (cell_lt h0)).trans h0⟩
theorem take_nob {w : World} {p : Option Addr} (h : Nobody w p) (k : Int) : Calls Try.prog 9 #[.pointer p, .int .i64 k] w fun e w' => e = .returned (.tuple #[.agg #[.int .i64 0, .int .i64 0, .string ⟨#[]⟩], .bool false]) ∧ Below w.heap.size w w' := by
  rcases h with rfl | ⟨g, rfl, h0⟩
  · exact take_nil k w
  · exact take_zero g k w h0
theorem put_nob {w : World} {p : Option Addr} (h : Nobody w p) (f t : Int) (s : ByteArray) : Calls Try.prog 8 #[.pointer p, .agg #[.int .i64 f, .int .i64 t, .string s]] w fun e w' => e = .returned (.int .i64 1) ∧ Below w.heap.size w w' := by
  rcases h with rfl | ⟨g, rfl, h0⟩
  · exact put_nil f t s w
  · exact put_zero g f t s w h0
theorem len_nob {w : World} {p : Option Addr} (h : Nobody w p) : Calls Try.prog 10 #[.pointer p] w fun e w' => e = .returned (.int .i64 0) ∧ w = w' := by
  rcases h with rfl | ⟨g, rfl, h0⟩
  · exact len_nil w
  · exact len_zero g w h0
theorem between_nob {w : World} {p : Option Addr} (h : Nobody w p) (x y : Int) : Calls Try.prog 12 #[.pointer p, .int .i64 x, .int .i64 y] w fun e w' => e = .returned (.int .i64 0) ∧ w = w' := by
  rcases h with rfl | ⟨g, rfl, h0⟩
  · exact between_nil x y w
  · exact between_zero g x y w h0
theorem place_nob {w : World} {p : Option Addr} (h : Nobody w p) (k : Int) : Calls Try.prog 19 #[.pointer p, .int .i64 k] w fun e w' => e = .returned (.tuple #[.int .i64 0, .bool false]) ∧ w = w' := by
  rcases h with rfl | ⟨g, rfl, h0⟩
  · exact place_nil k w
  · exact place_zero g k w h0
theorem given_nob {w : World} {p : Option Addr} (h : Nobody w p) : Calls Try.prog 17 #[.pointer p] w fun e w' => e = .returned (.bool false) ∧ w = w' := by
  rcases h with rfl | ⟨g, rfl, h0⟩
  · exact given_nil w
  · exact given_zero g w h0
theorem twice_nob {w : World} {p : Option Addr} (h : Nobody w p) (k : Int) : Calls Try.prog 15 #[.pointer p, .int .i64 k] w fun e w' => e = .returned (.bool false) ∧ w = w' := by
  have HP := Lib.hid (place_nob h k)
  clear h
  go_enter Try.func15, Try.ntmps15
  go_wp2_with fail
  refine HP.out.mono ?_
  rintro e w2 ⟨rfl, rfl⟩
  go_wp2_with fail
  go_ret
  exact ⟨rfl, rfl⟩
set_option maxRecDepth 100000 in
theorem cut_nob {w : World} {p : Option Addr} (h : Nobody w p) (k : Int) : Calls Try.prog 16 #[.pointer p, .int .i64 k] w fun e w' => e = .returned (.int .i64 0) ∧ Below w.heap.size w w' := by
  have hb : Below w.heap.size w ((w.alloc (.cells #[.pointer p] 23)).alloc (.cells #[.int .i64 k] 3)) := ((Below.refl _ _).alloc (Nat.le_refl _) _).alloc (by simp) _
  have HG := Lib.hid (given_nob (h.below hb))
  have HB := Lib.hid hb
  clear h hb
  go_enter Try.func16, Try.ntmps16
  go_wp2_with fail
  refine HG.out.mono ?_
  rintro e w2 ⟨rfl, rfl⟩
  go_wp2_with fail
  go_ret
  exact ⟨rfl, HB.out⟩

theorem neq_zero (w : World) : (binOp .neq 30 (.agg #[.int .i64 0, .int .i64 0, .string ⟨#[]⟩]) (.agg #[.int .i64 0, .int .i64 0, .string ⟨#[]⟩])).run Try.prog w = .ok (.bool false) w := by
  have hS : Try.prog.underlying 30 = some (.struct (Try.prog.fieldsOf 30)) := by kernel_rfl
  have hp : Try.prog.stoodInHeld 30 = false := by kernel_rfl
  rw [run_neq_struct, show (10000 : Nat) = 9999 + 1 from rfl, run_equalIn_agg w 9999 30 _ _ hS hp]
  simp only [Program.fieldsOf, Try.underlying30]
  go_simp

set_option maxRecDepth 100000 in
set_option maxHeartbeats 3200000 in
theorem nobody_main (k : Int) (s : ByteArray) (_ : (Lit.int .i64 k).wf = true) (_ : s.size ≤ maxLen) (w : World) :
    Calls Try.prog 6 #[.int .i64 k, .string s] w fun e w' => e = .returned (.bool true) ∧ Below w.heap.size w w' := by
  go_enter Try.func6, Try.ntmps6
  go_wp2_with fail
  have hbel : Below w.heap.size w ((w.alloc (.cells #[.int .i64 0, .slice none 0 0, .map none] 55)).alloc (.cells #[.pointer none, .pointer (some ⟨w.heap.size, 0, none⟩)] 23)) :=
    ((Below.refl _ _).alloc (Nat.le_refl _) _).alloc (by simp) _
  have h1 : ((w.alloc (.cells #[.int .i64 0, .slice none 0 0, .map none] 55)).alloc (.cells #[.pointer none, .pointer (some ⟨w.heap.size, 0, none⟩)] 23)).heap[w.heap.size + 1]? = some (.cells #[.pointer none, .pointer (some ⟨w.heap.size, 0, none⟩)] 23 (0, 0)) := heap_alloc2_new w _ _
  have h0 : ((w.alloc (.cells #[.int .i64 0, .slice none 0 0, .map none] 55)).alloc (.cells #[.pointer none, .pointer (some ⟨w.heap.size, 0, none⟩)] 23)).heap[w.heap.size]? = some (.cells #[.int .i64 0, .slice none 0 0, .map none] 55 (0, 0)) := by
    rw [Below.heap_alloc _ _ _ (by simp)]
    exact heap_alloc_new w _
  generalize (w.alloc (.cells #[.int .i64 0, .slice none 0 0, .map none] 55)).alloc (.cells #[.pointer none, .pointer (some ⟨w.heap.size, 0, none⟩)] 23) = w1 at *
  have hn1 : Nobody w1 (some ⟨w.heap.size, 0, none⟩) := .inr ⟨w.heap.size, rfl, by rw [cell_of_row _ _ _ _ _ _ h0]; rfl⟩
  have hc : ∀ i : Nat, i < 2 → ∃ p, Nobody w1 p ∧ w1.cell? ⟨w.heap.size + 1, i, none⟩ = some (.pointer p) := by
    intro i hi
    rcases (by omega : i = 0 ∨ i = 1) with rfl | rfl
    · exact ⟨none, .inl rfl, by rw [cell_of_row _ _ _ _ _ _ h1]; rfl⟩
    · exact ⟨some ⟨w.heap.size, 0, none⟩, hn1, by rw [cell_of_row _ _ _ _ _ _ h1]; rfl⟩
  have HC := Lib.hid hc
  have HB := Lib.hid hbel
  clear hc hbel h1 h0 hn1
  have hneq := neq_zero
  go_loopw [6] (fun v wr => ∃ i : Nat, i ≤ 2 ∧ v = .int .i64 i ∧ Hid (Below w1.heap.size w1 wr)) (fun v _ => 2 - (intOf v).toNat)
  case atStart => exact ⟨0, by omega, rfl, Below.refl _ _⟩
  case round =>
    obtain ⟨i, hi, rfl, HR⟩ := hrel
    by_cases hlt : i < 2
    · obtain ⟨p, hp, hcell⟩ := HC.out i hlt
      have hc0 := (HR.out.cell (p := ⟨w.heap.size + 1, i, none⟩) (cell_lt hcell)).trans hcell
      have HP := Lib.hid (hp.below HR.out)
      have HCL := Lib.hid hcell
      have hi2 : (i : Int) < 2 := by omega
      clear hp hcell
      go_wp2_with fail
      refine (take_nob HP.out _).mono ?_
      rintro e w2 ⟨rfl, hb2⟩
      have hb3 : Below wr.heap.size wr (w2.alloc (.cells #[.int .i64 0, .int .i64 0, .string ⟨#[]⟩] 30)) := hb2.alloc hb2.size _
      have hh3 : (w2.alloc (.cells #[.int .i64 0, .int .i64 0, .string ⟨#[]⟩] 30)).heap[w2.heap.size]? = some (.cells #[.int .i64 0, .int .i64 0, .string ⟨#[]⟩] 30 (0, 0)) := heap_alloc_new w2 _
      have hc3 := (hb3.cell (p := ⟨w.heap.size + 1, i, none⟩) (cell_lt hc0)).trans hc0
      have HP3 := Lib.hid (HP.out.below hb3)
      have HR3 := Lib.hid (HR.out.trans (hb3.mono HR.out.size))
      have HH3 := Lib.hid hh3
      clear hb2 hb3 hh3
      go_wp2_with fail
      generalize w2.alloc (.cells #[.int .i64 0, .int .i64 0, .string ⟨#[]⟩] 30) = w3 at *
      refine (put_nob HP3.out _ _ _).mono ?_
      rintro e w4 ⟨rfl, hb4⟩
      have hh4 := (hb4.block w2.heap.size (cell_lt (p := ⟨w2.heap.size, 0, none⟩) (by rw [cell_of_row _ _ _ _ _ _ HH3.out]; rfl))).trans HH3.out
      have z0 : w4.cell? ⟨w2.heap.size, 0, none⟩ = some (.int .i64 0) := by rw [cell_of_row _ _ _ _ _ _ hh4]; rfl
      have z1 : w4.cell? ⟨w2.heap.size, 1, none⟩ = some (.int .i64 0) := by rw [cell_of_row _ _ _ _ _ _ hh4]; rfl
      have z2 : w4.cell? ⟨w2.heap.size, 2, none⟩ = some (.string ⟨#[]⟩) := by rw [cell_of_row _ _ _ _ _ _ hh4]; rfl
      have hc4 := (hb4.cell (p := ⟨w.heap.size + 1, i, none⟩) (cell_lt hc3)).trans hc3
      have HP4 := Lib.hid (HP3.out.below hb4)
      have HR4 := Lib.hid (HR3.out.trans (hb4.mono HR3.out.size))
      clear hb4 hh4
      go_wp2_with fail
      refine (twice_nob HP4.out _).mono ?_
      rintro e w5 ⟨rfl, rfl⟩
      go_wp2_with fail
      refine (len_nob HP4.out).mono ?_
      rintro e w5 ⟨rfl, rfl⟩
      go_wp2_with fail
      refine (between_nob HP4.out _ _).mono ?_
      rintro e w5 ⟨rfl, rfl⟩
      go_wp2_with fail
      refine (cut_nob HP4.out _).mono ?_
      rintro e w6 ⟨rfl, hb6⟩
      have HR6 := Lib.hid (HR4.out.trans (hb6.mono HR4.out.size))
      clear hb6
      go_wp2_with fail
      go_roundw
      case rel => exact ⟨i + 1, by omega, i64_eq (by omega), HR6.out⟩
      case measure => simp [intOf]; omega
    · have hi2 : ¬ (i : Int) < 2 := by omega
      go_wp2_with fail
      refine (awake_any _).mono ?_
      rintro e w2 ⟨rfl, hb2⟩
      go_wp2_with fail
      go_ret
      have hbel := HB.out.trans (HR.out.mono HB.out.size)
      exact ⟨rfl, hbel.trans (hb2.mono hbel.size)⟩
end Go.Proofs.Ytflaghnbbfdamaa
