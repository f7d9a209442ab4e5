/-
  The reference's functions Add and Trim.
-/
import Derived.Test.YtgcghdinccdphaaRefB
import Derived.RegionCalls
namespace Go.Proofs.Ytgcghdinccdphaa
open Go.RowKit

/-- the blocks that are not the disk's, behind a call that makes memory -/
def NN (N : Nat → Prop) (w w' : World) : Nat → Prop := fun x => N x ∨ (w.heap.size ≤ x ∧ x < w'.heap.size)
theorem Rf.fresh {w w' : World} {N : Nat → Prop} {B : Nat} {v : Value} {r : Nat} {F : Nat → List UInt8} {S : Nat → Nat} (h : Rf w' (fun x => B ≤ x) v r F S) (hB : w.heap.size ≤ B) : Rf w' (NN N w w') v r F S := by
  obtain ⟨a, b, c, d, hv, h⟩ := h
  exact ⟨a, b, c, d, hv, ⟨.inr ⟨Nat.le_trans hB h.na, h.alt⟩, .inr ⟨Nat.le_trans hB h.nb, h.blt⟩, h.all, h.sure, h.c1, h.c2, h.d1, h.d2⟩⟩
theorem Rfd.old {w w' : World} {N : Nat → Prop} {a b c d r : Nat} {F : Nat → List UInt8} {S : Nat → Nat} (h : Rfd w N a b c d F S) (hb : Below w.heap.size w w') : Rf w' (NN N w w') (rval r a b c d) r F S :=
  ⟨a, b, c, d, rfl, (h.below hb).more (fun _ hx => .inl hx)⟩

/-- a function of the reference has boxed its disk, and its result -/
structure Rbox (w wx : World) (r a b c d : Nat) : Prop where
  bel : Below w.heap.size w wx
  b4 : wx.heap[w.heap.size]? = some (.cells #[.int .i64 (r : Nat), .slice (some ⟨a, 0, none⟩) 256 c, .slice (some ⟨b, 0, none⟩) 256 d] 45 (0, 0))
  b6 : wx.heap[w.heap.size + 1]? = some (.cells #[.int .i64 0, .slice none 0 0, .slice none 0 0] 45 (0, 0))
theorem Rbox.new (w : World) (r a b c d : Nat) : Rbox w ((w.alloc (.cells #[.int .i64 (r : Nat), .slice (some ⟨a, 0, none⟩) 256 c, .slice (some ⟨b, 0, none⟩) 256 d] 45)).alloc (.cells #[.int .i64 0, .slice none 0 0, .slice none 0 0] 45)) r a b c d :=
  ⟨((Below.refl _ _).alloc (Nat.le_refl _) _).alloc (by simp) _, by rw [Below.heap_alloc _ _ _ (by simp)]; exact heap_alloc_new w _, heap_alloc2_new w _ _⟩
section
variable {w wx wy : World} {r a b c d : Nat}
theorem Rbox.lt (h : Rbox w wx r a b c d) : w.heap.size + 1 < wx.heap.size := by
  rcases Nat.lt_or_ge (w.heap.size + 1) wx.heap.size with hlt | hge
  · exact hlt
  · have := h.b6
    rw [Array.getElem?_eq_none hge] at this
    cases this
theorem Rbox.below (h : Rbox w wx r a b c d) (hb : Below wx.heap.size wx wy) : Rbox w wy r a b c d :=
  ⟨h.bel.trans (hb.mono h.bel.size), (hb.block _ (by have := h.lt; omega)).trans h.b4, (hb.block _ h.lt).trans h.b6⟩
theorem Rbox.drew (h : Rbox w wx r a b c d) : Rbox w wx.drew r a b c d := ⟨h.bel.drew, h.b4, h.b6⟩
theorem Rbox.c0 (h : Rbox w wx r a b c d) : wx.cell? ⟨w.heap.size, 0, none⟩ = some (.int .i64 (r : Nat)) := by rw [cell_of_row _ _ _ _ _ _ h.b4]; rfl
theorem Rbox.c1 (h : Rbox w wx r a b c d) : wx.cell? ⟨w.heap.size, 1, none⟩ = some (.slice (some ⟨a, 0, none⟩) 256 c) := by rw [cell_of_row _ _ _ _ _ _ h.b4]; rfl
theorem Rbox.c2 (h : Rbox w wx r a b c d) : wx.cell? ⟨w.heap.size, 2, none⟩ = some (.slice (some ⟨b, 0, none⟩) 256 d) := by rw [cell_of_row _ _ _ _ _ _ h.b4]; rfl
theorem Rbox.r0 (h : Rbox w wx r a b c d) : wx.cell? ⟨w.heap.size + 1, 0, none⟩ = some (.int .i64 0) := by rw [cell_of_row _ _ _ _ _ _ h.b6]; rfl
theorem Rbox.r1 (h : Rbox w wx r a b c d) : wx.cell? ⟨w.heap.size + 1, 1, none⟩ = some (.slice none 0 0) := by rw [cell_of_row _ _ _ _ _ _ h.b6]; rfl
theorem Rbox.r2 (h : Rbox w wx r a b c d) : wx.cell? ⟨w.heap.size + 1, 2, none⟩ = some (.slice none 0 0) := by rw [cell_of_row _ _ _ _ _ _ h.b6]; rfl
theorem Rbox.rf (h : Rbox w wx r a b c d) (j : Nat) : wx.frozen? ⟨w.heap.size + 1, j, none⟩ = false := frozen_of_row _ _ _ _ _ h.b6
end

theorem Rbox.after {w wx wy : World} {r a b c d k : Nat} {x y : Value} (h : Rbox w wx r a b c d) (za : wx.cell? ⟨a, k, none⟩ = some x) (zb : wx.cell? ⟨b, k, none⟩ = some y) (hb : Below wx.heap.size wx wy) :
    wy.cell? ⟨w.heap.size, 0, none⟩ = some (.int .i64 (r : Nat)) ∧ wy.cell? ⟨w.heap.size, 1, none⟩ = some (.slice (some ⟨a, 0, none⟩) 256 c) ∧ wy.cell? ⟨w.heap.size, 2, none⟩ = some (.slice (some ⟨b, 0, none⟩) 256 d) ∧
      wy.cell? ⟨a, k, none⟩ = some x ∧ wy.cell? ⟨b, k, none⟩ = some y ∧ wy.cell? ⟨w.heap.size + 1, 0, none⟩ = some (.int .i64 0) ∧ wy.cell? ⟨w.heap.size + 1, 1, none⟩ = some (.slice none 0 0) ∧ wy.cell? ⟨w.heap.size + 1, 2, none⟩ = some (.slice none 0 0) ∧
      wy.frozen? ⟨w.heap.size + 1, 0, none⟩ = false ∧ wy.frozen? ⟨w.heap.size + 1, 1, none⟩ = false ∧ wy.frozen? ⟨w.heap.size + 1, 2, none⟩ = false := by
  have h2 := h.below hb
  exact ⟨h2.c0, h2.c1, h2.c2, (hb.cell (p := ⟨a, k, none⟩) (cell_lt za)).trans za, (hb.cell (p := ⟨b, k, none⟩) (cell_lt zb)).trans zb, h2.r0, h2.r1, h2.r2, h2.rf 0, h2.rf 1, h2.rf 2⟩
/-- what a function of the reference hands back lies in its result -/
theorem Rbox.result {w wx : World} {r a b c d a' b' c' d' r' : Nat} {N : Nat → Prop} {F : Nat → List UInt8} {S : Nat → Nat} (h : Rbox w wx r a b c d) (hR : Rfd wx N a' b' c' d' F S) (hab : a' ≠ w.heap.size + 1) (hbb : b' ≠ w.heap.size + 1) :
    Rfd (((wx.setCell ⟨w.heap.size + 1, 0, none⟩ (.int .i64 (r' : Nat))).setCell ⟨w.heap.size + 1, 1, none⟩ (.slice (some ⟨a', 0, none⟩) 256 c')).setCell ⟨w.heap.size + 1, 2, none⟩ (.slice (some ⟨b', 0, none⟩) 256 d')) N a' b' c' d' F S ∧
    Below w.heap.size w (((wx.setCell ⟨w.heap.size + 1, 0, none⟩ (.int .i64 (r' : Nat))).setCell ⟨w.heap.size + 1, 1, none⟩ (.slice (some ⟨a', 0, none⟩) 256 c')).setCell ⟨w.heap.size + 1, 2, none⟩ (.slice (some ⟨b', 0, none⟩) 256 d')) ∧
    ((((wx.setCell ⟨w.heap.size + 1, 0, none⟩ (.int .i64 (r' : Nat))).setCell ⟨w.heap.size + 1, 1, none⟩ (.slice (some ⟨a', 0, none⟩) 256 c')).setCell ⟨w.heap.size + 1, 2, none⟩ (.slice (some ⟨b', 0, none⟩) 256 d')).heap[w.heap.size + 1]? =
      some (.cells #[.int .i64 (r' : Nat), .slice (some ⟨a', 0, none⟩) 256 c', .slice (some ⟨b', 0, none⟩) 256 d'] 45 (0, 0))) := by
  refine ⟨hR.move ?_ ?_, ((h.bel.setCell (by show w.heap.size ≤ w.heap.size + 1; omega) _).setCell (by show w.heap.size ≤ w.heap.size + 1; omega) _).setCell (by show w.heap.size ≤ w.heap.size + 1; omega) _, heap_of_cells (heap_of_cells (heap_of_cells h.b6 0 _) 1 _) 2 _⟩
  · rw [Below.heap_setCell _ _ _ _ hab, Below.heap_setCell _ _ _ _ hab, Below.heap_setCell _ _ _ _ hab]
  · rw [Below.heap_setCell _ _ _ _ hbb, Below.heap_setCell _ _ _ _ hbb, Below.heap_setCell _ _ _ _ hbb]
theorem cells3_of {w : World} {g : Nat} {x y z : Value} {t : TypeId} (h : w.heap[g]? = some (.cells #[x, y, z] t (0, 0))) : w.cell? ⟨g, 0, none⟩ = some x ∧ w.cell? ⟨g, 1, none⟩ = some y ∧ w.cell? ⟨g, 2, none⟩ = some z :=
  ⟨by rw [cell_of_row _ _ _ _ _ _ h]; rfl, by rw [cell_of_row _ _ _ _ _ _ h]; rfl, by rw [cell_of_row _ _ _ _ _ _ h]; rfl⟩
/-- the world behind the store of a result -/
def stored3 (wx : World) (g r a b c d : Nat) : World := ((wx.setCell ⟨g, 0, none⟩ (.int .i64 (r : Nat))).setCell ⟨g, 1, none⟩ (.slice (some ⟨a, 0, none⟩) 256 c)).setCell ⟨g, 2, none⟩ (.slice (some ⟨b, 0, none⟩) 256 d)
theorem Rbox.done {w wx : World} {r a b c d a' b' c' d' r' B : Nat} {N : Nat → Prop} {F : Nat → List UInt8} {S : Nat → Nat} (h : Rbox w wx r a b c d) (hR : Rfd wx (fun x => B ≤ x) a' b' c' d' F S) (hB : w.heap.size + 1 < B) :
    Rf (stored3 wx (w.heap.size + 1) r' a' b' c' d') (NN N w (stored3 wx (w.heap.size + 1) r' a' b' c' d')) (rval r' a' b' c' d') r' F S ∧ Below w.heap.size w (stored3 wx (w.heap.size + 1) r' a' b' c' d') ∧
      (stored3 wx (w.heap.size + 1) r' a' b' c' d').cell? ⟨w.heap.size + 1, 0, none⟩ = some (.int .i64 (r' : Nat)) ∧ (stored3 wx (w.heap.size + 1) r' a' b' c' d').cell? ⟨w.heap.size + 1, 1, none⟩ = some (.slice (some ⟨a', 0, none⟩) 256 c') ∧
      (stored3 wx (w.heap.size + 1) r' a' b' c' d').cell? ⟨w.heap.size + 1, 2, none⟩ = some (.slice (some ⟨b', 0, none⟩) 256 d') := by
  have ha : B ≤ a' := hR.na
  have hb : B ≤ b' := hR.nb
  obtain ⟨q1, q2, q3⟩ := h.result (r' := r') hR (by omega) (by omega)
  obtain ⟨c0, c1, c2⟩ := cells3_of q3
  exact ⟨Rf.fresh ⟨a', b', c', d', rfl, q1⟩ (by omega), q2, c0, c1, c2⟩
theorem Rbox.same {w wx : World} {r a b c d : Nat} {N : Nat → Prop} {F : Nat → List UInt8} {S : Nat → Nat} (h : Rbox w wx r a b c d) (hR : Rfd w N a b c d F S) :
    Rf (stored3 wx (w.heap.size + 1) r a b c d) (NN N w (stored3 wx (w.heap.size + 1) r a b c d)) (rval r a b c d) r F S ∧ Below w.heap.size w (stored3 wx (w.heap.size + 1) r a b c d) ∧
      (stored3 wx (w.heap.size + 1) r a b c d).cell? ⟨w.heap.size + 1, 0, none⟩ = some (.int .i64 (r : Nat)) ∧ (stored3 wx (w.heap.size + 1) r a b c d).cell? ⟨w.heap.size + 1, 1, none⟩ = some (.slice (some ⟨a, 0, none⟩) 256 c) ∧
      (stored3 wx (w.heap.size + 1) r a b c d).cell? ⟨w.heap.size + 1, 2, none⟩ = some (.slice (some ⟨b, 0, none⟩) 256 d) := by
  have ha := hR.alt
  have hb := hR.blt
  obtain ⟨q1, q2, q3⟩ := h.result (r' := r) (hR.below h.bel) (by omega) (by omega)
  obtain ⟨c0, c1, c2⟩ := cells3_of q3
  exact ⟨⟨a, b, c, d, rfl, q1.more (fun _ hx => .inl hx)⟩, q2, c0, c1, c2⟩
theorem far3 {w : World} {g x k : Nat} {u0 u1 u2 v : Value} (h : w.cell? ⟨x, k, none⟩ = some v) (hne : ¬ x = g) : (((w.setCell ⟨g, 0, none⟩ u0).setCell ⟨g, 1, none⟩ u1).setCell ⟨g, 2, none⟩ u2).cell? ⟨x, k, none⟩ = some v := by
  rw [World.cell?_setCell_other (h := fun e => hne (by injection e with e; exact e.symm)), World.cell?_setCell_other (h := fun e => hne (by injection e with e; exact e.symm)), World.cell?_setCell_other (h := fun e => hne (by injection e with e; exact e.symm))]
  exact h

set_option maxRecDepth 100000 in
set_option maxHeartbeats 3200000 in
/-- Add of the reference, where there is room -/
theorem radd_ok {w : World} {N : Nat → Prop} {a b c d r : Nat} {F : Nat → List UInt8} {S : Nat → Nat} (h : Rfd w N a b c d F S) (hr : r ≤ 16777216) {k : Nat} (hk : k < 256) (s : ByteArray) (hs : s.size + total F 256 ≤ r) :
    Calls Try.prog 22 #[rval r a b c d, .int .i64 k, .string s] w fun e w' => ∃ v, e = .returned (.tuple #[v, .int .i64 0]) ∧ Rf w' (NN N w w') v r (upd F k (F k ++ s.data.toList)) S ∧ Below w.heap.size w w' := by
  have hU : ∀ W, Below w.heap.size w W → Calls Try.prog 28 #[rval r a b c d] W fun e w' => e = .returned (.int .i64 (total F 256 : Nat)) ∧ Below W.heap.size W w' := fun W hb => rused_any (h.below hb) (by omega)
  have hWi : ∀ W, Below w.heap.size w W → Calls Try.prog 30 #[rval r a b c d, .int .i64 k, .string (txt (F k) ++ s), .int .i64 (S k : Nat)] W fun e w' => ∃ v, e = .returned v ∧ Rf w' (fun x => W.heap.size ≤ x) v r (upd F k (F k ++ s.data.toList)) S ∧ Below W.heap.size W w' := by
    intro W hb
    have := with_any (r := r) (h.below hb) hk (txt (F k) ++ s) (S k)
    have e : (txt (F k) ++ s).data.toList = F k ++ s.data.toList := by simp [txt]
    rw [e, upd_self] at this
    exact this
  have hbox := Rbox.new w r a b c d
  have HF := Lib.hid (file_yes k hk)
  have hlenk := total_one F hk
  have hT : (txt (F k)).size ≤ 16777216 := by rw [txt_size]; omega
  have HU := Lib.hid hU
  have HWI := Lib.hid hWi
  have HR := Lib.hid h
  clear hU hWi h
  unfold rval at HU HWI ⊢
  obtain ⟨tt, htt⟩ : ∃ tt, tt = total F 256 := ⟨_, rfl⟩
  rw [← htt] at HU hs hlenk
  clear htt
  go_enter Try.func22, Try.ntmps22
  go_wp2_with fail
  generalize (w.alloc (.cells #[.int .i64 (r : Nat), .slice (some ⟨a, 0, none⟩) 256 c, .slice (some ⟨b, 0, none⟩) 256 d] 45)).alloc (.cells #[.int .i64 0, .slice none 0 0, .slice none 0 0] 45) = w1 at *
  refine (HF.out _).mono ?_
  rintro e w2 ⟨rfl, rfl⟩
  have x40 := hbox.c0
  have x41 := hbox.c1
  have x42 := hbox.c2
  have hl1 : w.heap.size < w1.heap.size := cell_lt x40
  have HB := Lib.hid hbox
  clear hbox
  go_wp2_with fail
  go_cut [19] (fun t wx => t = .bool false ∧ Hid (Rbox w wx r a b c d))
  case first =>
    go_region_held3 (fun w' => w'.cell? ⟨w.heap.size, 0, none⟩ = some (.int .i64 (r : Nat)) ∧ w'.cell? ⟨w.heap.size, 1, none⟩ = some (.slice (some ⟨a, 0, none⟩) 256 c) ∧ w'.cell? ⟨w.heap.size, 2, none⟩ = some (.slice (some ⟨b, 0, none⟩) 256 d)) (go_keep)
      ((go_at_call 28; refine (HU.out _ (by first | exact HB.out.bel.drew | exact HB.out.bel)).mono ?_; rintro e w5 ⟨rfl, hb⟩; have y40 := (hb.cell (p := ⟨w.heap.size, 0, none⟩) hl1).trans x40; have y41 := (hb.cell (p := ⟨w.heap.size, 1, none⟩) hl1).trans x41; have y42 := (hb.cell (p := ⟨w.heap.size, 2, none⟩) hl1).trans x42))
    all_goals
      go_wp2_with fail
      go_meet
      refine ⟨?_, HB.out.drew.below hb⟩
      rw [IntWalk.i64_in _ (by omega)]
      have : ¬ ((r : Int) - (tt : Int) < (s.size : Int)) := by omega
      simp [this]
  case rest =>
  obtain ⟨rfl, HB2⟩ := hcut
  have z0 := HB2.out.c0
  have z1 := HB2.out.c1
  have z2 := HB2.out.c2
  have za := (HR.out.below HB2.out.bel).all k hk
  have zb := (HR.out.below HB2.out.bel).sure k hk
  obtain ⟨Tk, hTk⟩ : ∃ Tk, Tk = txt (F k) := ⟨_, rfl⟩
  rw [← hTk] at za hT HWI
  obtain ⟨sk, hsk⟩ : ∃ sk, sk = S k := ⟨_, rfl⟩
  rw [← hsk] at zb HWI
  have hlk : w.heap.size + 1 < wc.heap.size := HB2.out.lt
  have k0 : (0 : Int) ≤ (k : Int) := by omega
  have k1 : (k : Int) < 256 := by omega
  have hsum : Tk.size + s.size ≤ 33554432 := by omega
  have hcat : ¬ (9223372036854775807 < Tk.size + s.size) := by omega
  have hal := HR.out.alt
  have hbl := HR.out.blt
  have hna : ¬ a = w.heap.size + 1 := by omega
  have hnb : ¬ b = w.heap.size + 1 := by omega
  clear hTk hsk x40 x41 x42 hl1 HB
  go_wp2_with fail
  go_region_held3 (fun w' => w'.cell? ⟨w.heap.size, 0, none⟩ = some (.int .i64 (r : Nat)) ∧ w'.cell? ⟨w.heap.size, 1, none⟩ = some (.slice (some ⟨a, 0, none⟩) 256 c) ∧ w'.cell? ⟨w.heap.size, 2, none⟩ = some (.slice (some ⟨b, 0, none⟩) 256 d) ∧ w'.cell? ⟨a, k, none⟩ = some (.string Tk) ∧ w'.cell? ⟨b, k, none⟩ = some (.int .i64 (sk : Nat))) (go_keep)
    ((go_at_call 30; refine (HWI.out _ (by first | exact HB2.out.bel.drew | exact HB2.out.bel)).mono ?_; rintro e w6 ⟨v, rfl, hrf, hb⟩; obtain ⟨y0, y1, y2, ya, yb, s0, s1, s2, g0, g1, g2⟩ := HB2.out.drew.after za zb hb; obtain ⟨a', b', c', d', rfl, hR'⟩ := hrf; unfold rval; have ya3 := far3 (g := w.heap.size + 1) (u0 := .int .i64 (r : Nat)) (u1 := .slice (some ⟨a', 0, none⟩) 256 c') (u2 := .slice (some ⟨b', 0, none⟩) 256 d') ya hna; have yb3 := far3 (g := w.heap.size + 1) (u0 := .int .i64 (r : Nat)) (u1 := .slice (some ⟨a', 0, none⟩) 256 c') (u2 := .slice (some ⟨b', 0, none⟩) 256 d') yb hnb))
  all_goals
    go_wp2_with fail
    obtain ⟨q1, q2, c0, c1, c2⟩ := Rbox.done (N := N) (r' := r) (HB2.out.drew.below hb) hR' hlk
    refine bodyPost_ret (v := .tuple #[rval r a' b' c' d', .int .i64 0]) ?_ rfl ⟨_, rfl, q1, q2⟩
    unfold stored3 at c0 c1 c2
    unfold rval
    simp [results, Try.results22, go_sem, c0, c1, c2]

set_option maxRecDepth 100000 in
set_option maxHeartbeats 3200000 in
/-- Add of the reference, where there is no room -/
theorem radd_full {w : World} {N : Nat → Prop} {a b c d r : Nat} {F : Nat → List UInt8} {S : Nat → Nat} (h : Rfd w N a b c d F S) (hr : r ≤ 16777216) (hfit : total F 256 ≤ r) {k : Nat} (hk : k < 256) (s : ByteArray) (hs2 : s.size ≤ 9223372036854775807) (hs : r < s.size + total F 256) :
    Calls Try.prog 22 #[rval r a b c d, .int .i64 k, .string s] w fun e w' => ∃ v, e = .returned (.tuple #[v, .int .i64 30]) ∧ Rf w' (NN N w w') v r F S ∧ Below w.heap.size w w' := by
  have hU : ∀ W, Below w.heap.size w W → Calls Try.prog 28 #[rval r a b c d] W fun e w' => e = .returned (.int .i64 (total F 256 : Nat)) ∧ Below W.heap.size W w' := fun W hb => rused_any (h.below hb) (by omega)
  have hbox := Rbox.new w r a b c d
  have HF := Lib.hid (file_yes k hk)
  have HU := Lib.hid hU
  have HR := Lib.hid h
  clear hU h
  unfold rval at HU ⊢
  obtain ⟨tt, htt⟩ : ∃ tt, tt = total F 256 := ⟨_, rfl⟩
  rw [← htt] at HU hs hfit
  clear htt
  go_enter Try.func22, Try.ntmps22
  go_wp2_with fail
  generalize (w.alloc (.cells #[.int .i64 (r : Nat), .slice (some ⟨a, 0, none⟩) 256 c, .slice (some ⟨b, 0, none⟩) 256 d] 45)).alloc (.cells #[.int .i64 0, .slice none 0 0, .slice none 0 0] 45) = w1 at *
  refine (HF.out _).mono ?_
  rintro e w2 ⟨rfl, rfl⟩
  have x40 := hbox.c0
  have x41 := hbox.c1
  have x42 := hbox.c2
  have hl1 : w.heap.size < w1.heap.size := cell_lt x40
  have HB := Lib.hid hbox
  clear hbox
  go_wp2_with fail
  go_cut [19] (fun t wx => t = .bool true ∧ Hid (Rbox w wx r a b c d))
  case first =>
    go_region_held3 (fun w' => w'.cell? ⟨w.heap.size, 0, none⟩ = some (.int .i64 (r : Nat)) ∧ w'.cell? ⟨w.heap.size, 1, none⟩ = some (.slice (some ⟨a, 0, none⟩) 256 c) ∧ w'.cell? ⟨w.heap.size, 2, none⟩ = some (.slice (some ⟨b, 0, none⟩) 256 d)) (go_keep)
      ((go_at_call 28; refine (HU.out _ (by first | exact HB.out.bel.drew | exact HB.out.bel)).mono ?_; rintro e w5 ⟨rfl, hb⟩; have y40 := (hb.cell (p := ⟨w.heap.size, 0, none⟩) hl1).trans x40; have y41 := (hb.cell (p := ⟨w.heap.size, 1, none⟩) hl1).trans x41; have y42 := (hb.cell (p := ⟨w.heap.size, 2, none⟩) hl1).trans x42))
    all_goals
      go_wp2_with fail
      go_meet
      refine ⟨?_, HB.out.drew.below hb⟩
      rw [IntWalk.i64_in _ (by omega)]
      have : ((r : Int) - (tt : Int) < (s.size : Int)) := by omega
      simp [this]
  case rest =>
  obtain ⟨rfl, HB2⟩ := hcut
  have z0 := HB2.out.c0
  have z1 := HB2.out.c1
  have z2 := HB2.out.c2
  have s0 := HB2.out.r0
  have s1 := HB2.out.r1
  have s2 := HB2.out.r2
  have g0 := HB2.out.rf 0
  have g1 := HB2.out.rf 1
  have g2 := HB2.out.rf 2
  clear x40 x41 x42 hl1 HB
  go_wp2_with fail
  obtain ⟨q1, q2, c0, c1, c2⟩ := Rbox.same HB2.out HR.out
  refine bodyPost_ret (v := .tuple #[rval r a b c d, .int .i64 30]) ?_ rfl ⟨_, rfl, q1, q2⟩
  unfold stored3 at c0 c1 c2
  unfold rval
  simp [results, Try.results22, go_sem, c0, c1, c2]
set_option maxRecDepth 100000 in
set_option maxHeartbeats 3200000 in
theorem radd_no {w : World} {N : Nat → Prop} {a b c d r : Nat} {F : Nat → List UInt8} {S : Nat → Nat} (h : Rfd w N a b c d F S) {k : Int} (hk : k < 0 ∨ 256 ≤ k) (s : ByteArray) :
    Calls Try.prog 22 #[rval r a b c d, .int .i64 k, .string s] w fun e w' => ∃ v, e = .returned (.tuple #[v, .int .i64 1]) ∧ Rf w' (NN N w w') v r F S ∧ Below w.heap.size w w' := by
  have hbox := Rbox.new w r a b c d
  have HF := Lib.hid (file_no k hk)
  have HR := Lib.hid h
  clear h hk
  unfold rval
  go_enter Try.func22, Try.ntmps22
  go_wp2_with fail
  generalize (w.alloc (.cells #[.int .i64 (r : Nat), .slice (some ⟨a, 0, none⟩) 256 c, .slice (some ⟨b, 0, none⟩) 256 d] 45)).alloc (.cells #[.int .i64 0, .slice none 0 0, .slice none 0 0] 45) = w1 at *
  refine (HF.out _).mono ?_
  rintro e w2 ⟨rfl, rfl⟩
  have HB2 := Lib.hid hbox
  clear hbox
  have z0 := HB2.out.c0
  have z1 := HB2.out.c1
  have z2 := HB2.out.c2
  have s0 := HB2.out.r0
  have s1 := HB2.out.r1
  have s2 := HB2.out.r2
  have g0 := HB2.out.rf 0
  have g1 := HB2.out.rf 1
  have g2 := HB2.out.rf 2
  go_wp2_with fail
  obtain ⟨q1, q2, c0, c1, c2⟩ := Rbox.same HB2.out HR.out
  refine bodyPost_ret (v := .tuple #[rval r a b c d, .int .i64 1]) ?_ rfl ⟨_, rfl, q1, q2⟩
  unfold stored3 at c0 c1 c2
  unfold rval
  simp [results, Try.results22, go_sem, c0, c1, c2]
end Go.Proofs.Ytgcghdinccdphaa
