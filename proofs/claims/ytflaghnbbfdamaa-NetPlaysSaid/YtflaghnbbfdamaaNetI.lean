/-
  awake of the laws of package net.
-/
import Derived.Test.YtflaghnbbfdamaaNetH
namespace Go.Proofs.Ytflaghnbbfdamaa
open Go.RowKit

def lX : Lt := (0, 1, ⟨#[120]⟩)
def lE : Lt := (1, 0, ⟨#[]⟩)
theorem good_x : Good (0, 1, ⟨#[120]⟩) := ⟨by decide, by decide, by decide, by decide, by decide⟩
theorem good_e : Good (1, 0, ⟨#[]⟩) := ⟨by decide, by decide, by decide, by decide, by decide⟩
theorem good_f : Good (0, 1, ⟨#[]⟩) := ⟨by decide, by decide, by decide, by decide, by decide⟩

set_option maxRecDepth 100000 in
set_option maxHeartbeats 3200000 in
theorem awake_any (w : World) : Calls Try.prog 11 #[] w fun e w' => e = .returned (.bool true) ∧ Below w.heap.size w w' := by
  have HN := Lib.hid (new_ok 1 (by omega) (by omega) w)
  obtain ⟨g, hg⟩ : ∃ g, g = w.heap.size + 1 := ⟨_, rfl⟩
  rw [← hg] at HN
  clear hg
  go_enter Try.func11, Try.ntmps11
  go_wp2_with fail
  refine HN.out.mono ?_
  rintro e w1 ⟨rfl, h1, b1⟩
  have H1 := Lib.hid h1
  have B1 := Lib.hid b1
  clear h1 b1 HN
  go_wp2_with fail
  refine (put_ok H1.out 0 1 ⟨#[120]⟩ good_x (by decide) (by decide) (by omega)).mono ?_
  rintro e w2 ⟨rfl, h2, k2⟩
  have H2 := Lib.hid h2
  have K2 := Lib.hid k2
  clear h2 k2
  go_wp2_with fail
  refine (put_full H2.out 0 1 ⟨#[]⟩ good_f (by decide)).mono ?_
  rintro e w3 ⟨rfl, b3⟩
  have H3 := Lib.hid ((H2.out.below b3).less (N' := fun b => b < w.heap.size) (fun z hz => .inl hz))
  have K3 := Lib.hid (K2.out.trans (Kept.of_below b3 H2.out.lt))
  clear b3
  go_wp2_with fail
  refine (put_ok H3.out 1 0 ⟨#[]⟩ good_e (by decide) (by decide) (by omega)).mono ?_
  rintro e w4 ⟨rfl, h4, k4⟩
  have H4 := Lib.hid h4
  have K4 := Lib.hid (K3.out.trans k4)
  clear h4 k4
  go_wp2_with fail
  refine (take_ok H4.out 0 0 1 ⟨#[120]⟩ (by decide) (by omega) (by decide)).mono ?_
  rintro e w5 ⟨rfl, h5, k5⟩
  have H5 := Lib.hid h5
  have K5 := Lib.hid (K4.out.trans k5)
  clear h5 k5
  have hb6 : Below w5.heap.size w5 (w5.alloc (.cells #[.int .i64 0, .int .i64 1, .string ⟨#[120]⟩] 30)) := (Below.refl _ _).alloc (Nat.le_refl _) _
  have hh6 : (w5.alloc (.cells #[.int .i64 0, .int .i64 1, .string ⟨#[120]⟩] 30)).heap[w5.heap.size]? = some (.cells #[.int .i64 0, .int .i64 1, .string ⟨#[120]⟩] 30 (0, 0)) := heap_alloc_new w5 _
  have x2 : (w5.alloc (.cells #[.int .i64 0, .int .i64 1, .string ⟨#[120]⟩] 30)).cell? ⟨w5.heap.size, 2, none⟩ = some (.string ⟨#[120]⟩) := by rw [cell_of_row _ _ _ _ _ _ hh6]; rfl
  have HL6 := Lib.hid (len_ok (H5.out.below hb6))
  have hk : Kept (fun b => b < w.heap.size) w w1 := Kept.of_below B1.out (fun _ h => h)
  have HB6 := Lib.hid ((hk.trans (K5.out)).trans (Kept.of_below hb6 H5.out.lt))
  clear hb6 hh6 hk
  go_wp2_with fail
  refine HL6.out.mono ?_
  rintro e w7 ⟨rfl, rfl⟩
  go_wp2_with fail
  go_ret
  exact ⟨by simp; decide, HB6.out.below (fun x hx => hx)⟩
end Go.Proofs.Ytflaghnbbfdamaa
