/-
  Take, where nothing is there.
-/
import Derived.Test.YtflaghnbbfdamaaNetC
namespace Go.Proofs.Ytflaghnbbfdamaa
open Go.RowKit

set_option maxRecDepth 100000 in
set_option maxHeartbeats 3200000 in
theorem take_no {v : Value} (k : Int) (w : World) (hp : ∀ W, Below w.heap.size w W → Calls Try.prog 19 #[v, .int .i64 k] W fun e w' => e = .returned (.tuple #[.int .i64 0, .bool false]) ∧ W = w') (hv : ∃ p, v = .pointer p) :
    Calls Try.prog 9 #[v, .int .i64 k] w fun e w' => e = .returned (.tuple #[.agg #[.int .i64 0, .int .i64 0, .string ⟨#[]⟩], .bool false]) ∧ Below w.heap.size w w' := by
  obtain ⟨p, rfl⟩ := hv
  have hb : Below w.heap.size w (w.alloc (.cells #[.int .i64 0, .int .i64 0, .string ⟨#[]⟩] 30)) := (Below.refl _ _).alloc (Nat.le_refl _) _
  have HP := Lib.hid (hp _ hb)
  have HB := Lib.hid hb
  have hh : (w.alloc (.cells #[.int .i64 0, .int .i64 0, .string ⟨#[]⟩] 30)).heap[w.heap.size]? = some (.cells #[.int .i64 0, .int .i64 0, .string ⟨#[]⟩] 30 (0, 0)) := heap_alloc_new w _
  have HH := Lib.hid hh
  clear hp hb hh
  go_enter Try.func9, Try.ntmps9
  go_wp2_with fail
  generalize w.alloc (.cells #[.int .i64 0, .int .i64 0, .string ⟨#[]⟩] 30) = w1 at *
  refine HP.out.mono ?_
  rintro e w2 ⟨rfl, rfl⟩
  have x0 : w1.cell? ⟨w.heap.size, 0, none⟩ = some (.int .i64 0) := by rw [cell_of_row _ _ _ _ _ _ HH.out]; rfl
  have x1 : w1.cell? ⟨w.heap.size, 1, none⟩ = some (.int .i64 0) := by rw [cell_of_row _ _ _ _ _ _ HH.out]; rfl
  have x2 : w1.cell? ⟨w.heap.size, 2, none⟩ = some (.string ⟨#[]⟩) := by rw [cell_of_row _ _ _ _ _ _ HH.out]; rfl
  have f0 := frozen_of_row _ _ 0 _ _ HH.out
  have f1 := frozen_of_row _ _ 1 _ _ HH.out
  have f2 := frozen_of_row _ _ 2 _ _ HH.out
  go_wp2_with fail
  have h3 := heap_setCell_same _ _ 2 _ _ (.string ⟨#[]⟩) (heap_setCell_same _ _ 1 _ _ (.int .i64 0) (heap_setCell_same _ _ 0 _ _ (.int .i64 0) HH.out))
  have c0 := cell_of_row _ _ 0 _ _ _ h3
  have c1 := cell_of_row _ _ 1 _ _ _ h3
  have c2 := cell_of_row _ _ 2 _ _ _ h3
  refine bodyPost_ret (v := .tuple #[.agg #[.int .i64 0, .int .i64 0, .string ⟨#[]⟩], .bool false]) (by simp [results, Try.results9, go_sem, c0, c1, c2]) rfl ⟨rfl, ?_⟩
  exact ((HB.out.setCell (p := ⟨w.heap.size, 0, none⟩) (Nat.le_refl _) _).setCell (p := ⟨w.heap.size, 1, none⟩) (Nat.le_refl _) _).setCell (p := ⟨w.heap.size, 2, none⟩) (Nat.le_refl _) _
theorem take_nil (k : Int) (w : World) : Calls Try.prog 9 #[.pointer none, .int .i64 k] w fun e w' => e = .returned (.tuple #[.agg #[.int .i64 0, .int .i64 0, .string ⟨#[]⟩], .bool false]) ∧ Below w.heap.size w w' :=
  take_no k w (fun W _ => place_nil k W) ⟨_, rfl⟩
theorem take_zero (g : Nat) (k : Int) (w : World) (h : w.cell? ⟨g, 0, none⟩ = some (.int .i64 0)) : Calls Try.prog 9 #[.pointer (some ⟨g, 0, none⟩), .int .i64 k] w fun e w' => e = .returned (.tuple #[.agg #[.int .i64 0, .int .i64 0, .string ⟨#[]⟩], .bool false]) ∧ Below w.heap.size w w' :=
  take_no k w (fun W hb => place_zero g k W ((hb.cell (p := ⟨g, 0, none⟩) (cell_lt h)).trans h)) ⟨_, rfl⟩
theorem take_none {w : World} {g most n : Nat} {N : Nat → Prop} (h : Net w g N most n []) (k : Int) : Calls Try.prog 9 #[.pointer (some ⟨g, 0, none⟩), .int .i64 k] w fun e w' => e = .returned (.tuple #[.agg #[.int .i64 0, .int .i64 0, .string ⟨#[]⟩], .bool false]) ∧ Below w.heap.size w w' :=
  take_no k w (fun _ hb => place_none (h.below hb) k) ⟨_, rfl⟩
end Go.Proofs.Ytflaghnbbfdamaa
