/-
  Put.
-/
import Derived.Test.YtflaghnbbfdamaaNetC
import Derived.Deep.RegionHeld3
import Derived.Deep.RegionHeldLaw
import Derived.Deep.AppendLies
namespace Go.Proofs.Ytflaghnbbfdamaa
open Go.RowKit

theorem info30 : (Try.prog.info? 30).map (fun i => (i.zero, i.size, i.bytes)) = some (some (.agg #[.int .i64 0, .int .i64 0, .string ⟨#[]⟩]), 3, 32) := by kernel_rfl

theorem put_nil (f t : Int) (s : ByteArray) (w : World) : Calls Try.prog 8 #[.pointer none, .agg #[.int .i64 f, .int .i64 t, .string s]] w fun e w' => e = .returned (.int .i64 1) ∧ Below w.heap.size w w' := by
  have hb : Hid (Below w.heap.size w (w.alloc (.cells #[.int .i64 f, .int .i64 t, .string s] 30))) := (Below.refl _ _).alloc (Nat.le_refl _) _
  have HG := Lib.hid given_nil
  go_enter Try.func8, Try.ntmps8
  go_wp2_with fail
  refine (HG.out _).mono ?_
  rintro e w1 ⟨rfl, rfl⟩
  go_wp2_with fail
  go_ret
  exact ⟨rfl, hb.out⟩
theorem put_zero (g : Nat) (f t : Int) (s : ByteArray) (w : World) (h : w.cell? ⟨g, 0, none⟩ = some (.int .i64 0)) : Calls Try.prog 8 #[.pointer (some ⟨g, 0, none⟩), .agg #[.int .i64 f, .int .i64 t, .string s]] w fun e w' => e = .returned (.int .i64 1) ∧ Below w.heap.size w w' := by
  have hb : Hid (Below w.heap.size w (w.alloc (.cells #[.int .i64 f, .int .i64 t, .string s] 30))) := (Below.refl _ _).alloc (Nat.le_refl _) _
  have HG := Lib.hid (given_zero g (w.alloc (.cells #[.int .i64 f, .int .i64 t, .string s] 30)) (by
    rw [World.cell?_of_block (a := ⟨g, 0, none⟩) (Below.heap_alloc w _ g (cell_lt h))]; exact h))
  go_enter Try.func8, Try.ntmps8
  go_wp2_with fail
  refine HG.out.mono ?_
  rintro e w1 ⟨rfl, rfl⟩
  go_wp2_with fail
  go_ret
  exact ⟨rfl, hb.out⟩

set_option maxRecDepth 100000 in
set_option maxHeartbeats 6400000 in
theorem put_full {w : World} {g most n : Nat} {N : Nat → Prop} {L : List Lt} (h : Net w g N most n L) (f t : Int) (s : ByteArray) (hg : Good (f, t, s)) (hfull : most ≤ ct L f t) :
    Calls Try.prog 8 #[.pointer (some ⟨g, 0, none⟩), .agg #[.int .i64 f, .int .i64 t, .string s]] w fun e w' => e = .returned (.int .i64 2) ∧ Below w.heap.size w w' := by
  obtain ⟨V, m, h⟩ := h
  obtain ⟨f0, f1, t0, t1, b1⟩ := hg
  have f0' : ¬ f < 0 := by simpa using f0
  have f1' : ¬ 255 < f := by simpa using f1
  have t0' : ¬ t < 0 := by simpa using t0
  have t1' : ¬ 255 < t := by simpa using t1
  have b1' : ¬ (1048576 : Int) < (s.size : Int) := by have : s.size ≤ 1048576 := b1; omega
  have hff : (most : Int) ≤ ((ct L f t : Nat) : Int) := by omega
  have hfit : Fits f ∧ Fits t := by simp only at f0 f1 t0 t1; exact ⟨⟨by omega, by omega⟩, ⟨by omega, by omega⟩⟩
  clear f0 f1 t0 t1 b1
  have hbel : Below w.heap.size w (w.alloc (.cells #[.int .i64 f, .int .i64 t, .string s] 30)) := (Below.refl _ _).alloc (Nat.le_refl _) _
  have hh : (w.alloc (.cells #[.int .i64 f, .int .i64 t, .string s] 30)).heap[w.heap.size]? = some (.cells #[.int .i64 f, .int .i64 t, .string s] 30 (0, 0)) := heap_alloc_new w _
  have H := Lib.hid (h.below hbel)
  have HB := Lib.hid hbel
  have HH := Lib.hid hh
  have HF := Lib.hid hfit
  have HW := Lib.hid (way_any f t s)
  clear hbel hh h hfit hfull
  go_enter Try.func8, Try.ntmps8
  go_wp2_with fail
  generalize w.alloc (.cells #[.int .i64 f, .int .i64 t, .string s] 30) = w1 at *
  have x0 : w1.cell? ⟨w.heap.size, 0, none⟩ = some (.int .i64 f) := by rw [cell_of_row _ _ _ _ _ _ HH.out]; rfl
  have x1 : w1.cell? ⟨w.heap.size, 1, none⟩ = some (.int .i64 t) := by rw [cell_of_row _ _ _ _ _ _ HH.out]; rfl
  have x2 : w1.cell? ⟨w.heap.size, 2, none⟩ = some (.string s) := by rw [cell_of_row _ _ _ _ _ _ HH.out]; rfl
  refine (given_ok H.out.c0 H.out.most1).mono ?_
  rintro e w2 ⟨rfl, rfl⟩
  go_wp2_with fail
  have g0 := H.out.c0
  have g2 := H.out.c2
  have hl := (H.out.mp.look HF.out.1 HF.out.2).1
  have hml := H.out.mp.lt
  have hgl := H.out.glt
  have hxl := cell_lt x0
  unfold pair at hl HW
  go_region_held3 (fun w' => w'.cell? ⟨g, 0, none⟩ = some (.int .i64 (most : Nat)) ∧ w'.cell? ⟨g, 2, none⟩ = some (.map (some m)) ∧ w'.cell? ⟨w.heap.size, 0, none⟩ = some (.int .i64 f) ∧ w'.cell? ⟨w.heap.size, 1, none⟩ = some (.int .i64 t) ∧ w'.cell? ⟨w.heap.size, 2, none⟩ = some (.string s) ∧
      (Instr.lookup 53 (.map (some m)) (.agg #[.int .i64 f, .int .i64 t]) false).run Try.prog w' = .ok (.int .i64 ((ct L f t : Nat) : Int)) w')
    (first | exact ⟨g0, g2, x0, x1, x2, ((H.out.mp.move (w' := w1.drew) rfl).look HF.out.1 HF.out.2).1⟩ | exact ⟨y0, y1, y2, y3, y4, y5⟩ | go_keep)
    (first
      | (go_at_call 18; refine (HW.out _).mono ?_; rintro e w3 ⟨rfl, hb3⟩; have y0 := (hb3.cell (p := ⟨g, 0, none⟩) hgl).trans g0; have y1 := (hb3.cell (p := ⟨g, 2, none⟩) hgl).trans g2; have y2 := (hb3.cell (p := ⟨w.heap.size, 0, none⟩) hxl).trans x0; have y3 := (hb3.cell (p := ⟨w.heap.size, 1, none⟩) hxl).trans x1; have y4 := (hb3.cell (p := ⟨w.heap.size, 2, none⟩) hxl).trans x2; have y5 : (Instr.lookup 53 (.map (some m)) (.agg #[.int .i64 f, .int .i64 t]) false).run Try.prog w3 = .ok (.int .i64 ((ct L f t : Nat) : Int)) w3 := ((H.out.mp.move (hb3.block m hml)).look HF.out.1 HF.out.2).1))
  all_goals
    go_wp2_with fail
    go_ret
    exact ⟨rfl, HB.out.trans (((Below.refl _ _).drew.trans hb3).mono HB.out.size)⟩
end Go.Proofs.Ytflaghnbbfdamaa
