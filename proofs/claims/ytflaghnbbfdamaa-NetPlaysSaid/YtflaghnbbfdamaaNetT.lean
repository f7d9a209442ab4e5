/-
  The document's functions Twice and Cut.
-/
import Derived.Test.YtflaghnbbfdamaaNetS
namespace Go.Proofs.Ytflaghnbbfdamaa
open Go.RowKit

/-- two boxes -/
structure Wb (w wx : World) (most : Nat) (V : Value) : Prop where
  bel : Below w.heap.size w wx
  b2 : wx.heap[w.heap.size]? = some (.cells #[.int .i64 (most : Nat), V] 44 (0, 0))
  b4 : wx.heap[w.heap.size + 1]? = some (.cells #[.int .i64 0, .slice none 0 0] 44 (0, 0))
theorem Wb.new (w : World) (most : Nat) (V : Value) : Wb w ((w.alloc (.cells #[.int .i64 (most : Nat), V] 44)).alloc (.cells #[.int .i64 0, .slice none 0 0] 44)) most V := by
  refine ⟨((Below.refl _ _).alloc (Nat.le_refl _) _).alloc (by simp) _, ?_, heap_alloc2_new w _ _⟩
  rw [Below.heap_alloc _ _ _ (by simp)]
  exact heap_alloc_new w _
section
variable {w wx wy : World} {most : Nat} {V V' : Value}
theorem Wb.lt (h : Wb w wx most V) : w.heap.size + 1 < wx.heap.size := by
  rcases Nat.lt_or_ge (w.heap.size + 1) wx.heap.size with hlt | hge
  · exact hlt
  · have := h.b4
    rw [Array.getElem?_eq_none hge] at this
    cases this
theorem Wb.below {B : Nat} (h : Wb w wx most V) (hb : Below B wx wy) (hB : w.heap.size + 2 ≤ B) : Wb w wy most V :=
  ⟨h.bel.trans (hb.mono (by omega)), (hb.block _ (by omega)).trans h.b2, (hb.block _ (by omega)).trans h.b4⟩
theorem Wb.net (h : Wb w wx most V) : wx.cell? ⟨w.heap.size, 0, none⟩ = some (.int .i64 (most : Nat)) ∧ wx.cell? ⟨w.heap.size, 1, none⟩ = some V := by
  refine ⟨?_, ?_⟩ <;> (rw [cell_of_row _ _ _ _ _ _ h.b2]; rfl)
theorem Wb.res (h : Wb w wx most V) : wx.cell? ⟨w.heap.size + 1, 0, none⟩ = some (.int .i64 0) ∧ wx.cell? ⟨w.heap.size + 1, 1, none⟩ = some (.slice none 0 0) ∧ wx.frozen? ⟨w.heap.size + 1, 0, none⟩ = false ∧ wx.frozen? ⟨w.heap.size + 1, 1, none⟩ = false := by
  refine ⟨?_, ?_, frozen_of_row _ _ _ _ _ h.b4, frozen_of_row _ _ _ _ _ h.b4⟩ <;> (rw [cell_of_row _ _ _ _ _ _ h.b4]; rfl)
theorem Wb.drew (h : Wb w wx most V) : Wb w wx.drew most V := ⟨h.bel.drew, h.b2, h.b4⟩
end
theorem Rd.apart {w : World} {M : Nat → Prop} {c g : Nat} {a : Option Addr} {L : List Lt} (h : Rd w M a c L) (hg : ∀ z, M z → z ≠ g) : ∀ b, a = some ⟨b, 0, none⟩ → b ≠ g := fun b e => by
  rcases h.2.2 with ⟨h1, _⟩ | ⟨b', h1, h2, _⟩
  · rw [h1] at e; cases e
  · rw [h1] at e; injection e with e; injection e with e; subst e; exact hg _ h2
theorem Rd.old {w : World} {N : Nat → Prop} {c : Nat} {a : Option Addr} {L : List Lt} (h : Rd w N a c L) : ∀ g, w.heap.size ≤ g → ∀ b, a = some ⟨b, 0, none⟩ → b ≠ g := fun g hg b e => by
  rcases h.2.2 with ⟨h1, _⟩ | ⟨b', h1, _, h2, _⟩
  · rw [h1] at e; cases e
  · rw [h1] at e; injection e with e; injection e with e; subst e; omega
def BPost (w : World) (N : Nat → Prop) (most : Nat) (L : List Lt) (x : Value) (e : Ending) (w' : World) : Prop :=
  ∃ v, e = .returned (.tuple #[v, x]) ∧ Rv w' (NN N w w') v most L ∧ Below w.heap.size w w'
set_option maxRecDepth 100000 in
set_option maxHeartbeats 3200000 in
theorem rtwice_none {w : World} {N : Nat → Prop} {a : Option Addr} {c most : Nat} (h : Rd w N a c []) (k : Int) :
    Calls Try.prog 23 #[qv most a 0 c, .int .i64 k] w (BPost w N most [] (.bool false)) := by
  have hbox := Wb.new w most (.slice a 0 c)
  have HP := Lib.hid (fun W => rplace_zero W most c a k)
  have HR := Lib.hid h
  have HB := Lib.hid hbox
  obtain ⟨x0, x1⟩ := hbox.net
  clear hbox h
  unfold qv at HP ⊢
  go_enter Try.func23, Try.ntmps23
  go_wp2_with fail
  generalize (w.alloc (.cells #[.int .i64 (most : Nat), .slice a 0 c] 44)).alloc (.cells #[.int .i64 0, .slice none 0 0] 44) = w1 at *
  refine (HP.out _).mono ?_
  rintro e w2 ⟨rfl, hb2⟩
  have hB2 := HB.out.below hb2 (by have := HB.out.lt; omega)
  have HB2 := Lib.hid hB2
  obtain ⟨v0, v1⟩ := hB2.net
  obtain ⟨z0, z1, q0, q1⟩ := hB2.res
  clear hb2 hB2
  go_wp2_with fail
  have hR2 := HR.out.below HB2.out.bel
  obtain ⟨c0, c1⟩ := st2_cells (most := most) (V := .slice a 0 c) HB2.out.b4
  refine bodyPost_ret (v := .tuple #[qv most a 0 c, .bool false]) ?_ rfl ⟨_, rfl, ⟨a, c, rfl, (hR2.st2 (HR.out.old _ (by omega))).more fun _ hx => .inl hx⟩, Below.st2 HB2.out.bel (by omega)⟩
  unfold st2 at c0 c1
  unfold qv
  simp [results, Try.results23, go_sem, c0, c1]
theorem Rd.wide {w w2 w5 wf : World} {N : Nat → Prop} {a : Option Addr} {c : Nat} {L : List Lt} (h : Rd wf (NN N w2 w5) a c L) (h0 : w.heap.size ≤ w2.heap.size) (h1 : w5.heap.size ≤ wf.heap.size) : Rd wf (NN N w wf) a c L :=
  h.more fun z hz => by
    rcases hz with hz | ⟨hz, hz'⟩
    · exact .inl hz
    · exact .inr ⟨by omega, by omega⟩
theorem far2 {w : World} {g x k : Nat} {u0 u1 v : Value} (h : w.cell? ⟨x, k, none⟩ = some v) (hne : ¬ x = g) : ((w.setCell ⟨g, 0, none⟩ u0).setCell ⟨g, 1, none⟩ u1).cell? ⟨x, k, none⟩ = some v := by
  rw [World.cell?_setCell_other (h := fun e => hne (by injection e with e; exact e.symm)), World.cell?_setCell_other (h := fun e => hne (by injection e with e; exact e.symm))]
  exact h
/-- behind a call of the document that makes memory, its result boxed -/
structure Mid (w wm : World) (N : Nat → Prop) (most g : Nat) (a' : Option Addr) (c' : Nat) (L' : List Lt) : Prop where
  bel : Below w.heap.size w wm
  b4 : wm.heap[w.heap.size + 1]? = some (.cells #[.int .i64 0, .slice none 0 0] 44 (0, 0))
  b7 : wm.heap[g]? = some (.cells #[.int .i64 (most : Nat), .slice a' L'.length c'] 44 (0, 0))
  rd : Rd wm (fun z => N z ∨ (w.heap.size + 2 ≤ z ∧ z < wm.heap.size)) a' c' L'
theorem Mid.a {w w2 W w5 : World} {N : Nat → Prop} {most c' : Nat} {V : Value} {a' : Option Addr} {L' : List Lt} (hB : Wb w w2 most V) (hW : Below w2.heap.size w2 W) (hb : Below W.heap.size W w5) (hr : Rd w5 (NN N W w5) a' c' L') :
    Mid w (w5.alloc (.cells #[.int .i64 (most : Nat), .slice a' L'.length c'] 44)) N most w5.heap.size a' c' L' := by
  have hlt := hB.lt
  have h1 := hW.size
  have hb2 : Below w2.heap.size w2 (w5.alloc (.cells #[.int .i64 (most : Nat), .slice a' L'.length c'] 44)) := (hW.trans (hb.mono h1)).alloc (Nat.le_trans h1 hb.size) _
  have h2 := hB.below hb2 (by omega)
  refine ⟨h2.bel, h2.b4, heap_alloc_new w5 _, (hr.below ((Below.refl _ _).alloc (Nat.le_refl _) _)).more fun z hz => ?_⟩
  rcases hz with hz | ⟨hz, hz'⟩
  · exact .inl hz
  · exact .inr ⟨by omega, by simp; omega⟩
theorem Mid.b {w w2 W w5 : World} {N : Nat → Prop} {most c' : Nat} {V : Value} {a' : Option Addr} {L' : List Lt} (hB : Wb w w2 most V) (hW : Below w2.heap.size w2 W) (hb : Below W.heap.size W w5) (hr : Rd w5 (NN N W w5) a' c' L') (hN : ∀ z, N z → z < w.heap.size)
    (h7 : w5.heap[w2.heap.size]? = some (.cells #[.int .i64 0, .slice none 0 0] 44 (0, 0))) (hlt7 : w2.heap.size < W.heap.size) :
    Mid w ((w5.setCell ⟨w2.heap.size, 0, none⟩ (.int .i64 (most : Nat))).setCell ⟨w2.heap.size, 1, none⟩ (.slice a' L'.length c')) N most w2.heap.size a' c' L' := by
  have hlt := hB.lt
  have h1 := hW.size
  have hb2 : Below w2.heap.size w2 ((w5.setCell ⟨w2.heap.size, 0, none⟩ (.int .i64 (most : Nat))).setCell ⟨w2.heap.size, 1, none⟩ (.slice a' L'.length c')) := ((hW.trans (hb.mono h1)).setCell (p := ⟨w2.heap.size, 0, none⟩) (Nat.le_refl _) _).setCell (p := ⟨w2.heap.size, 1, none⟩) (Nat.le_refl _) _
  have h2 := hB.below hb2 (by omega)
  refine ⟨h2.bel, h2.b4, heap_setCell_same _ _ 1 _ _ _ (heap_setCell_same _ _ 0 _ _ _ h7), ?_⟩
  have hap := hr.apart (g := w2.heap.size) (fun z hz => by
    rcases hz with hz | ⟨hz, _⟩
    · have := hN z hz; have := hB.bel.size; omega
    · omega)
  refine ((hr.store (p := ⟨w2.heap.size, 0, none⟩) hap _).store (p := ⟨w2.heap.size, 1, none⟩) hap _).more fun z hz => ?_
  rcases hz with hz | ⟨hz, hz'⟩
  · exact .inl hz
  · exact .inr ⟨by omega, by simpa [World.setCell] using hz'⟩
theorem Mid.drew {w wm : World} {N : Nat → Prop} {most g c' : Nat} {a' : Option Addr} {L' : List Lt} (h : Mid w wm N most g a' c' L') : Mid w wm.drew N most g a' c' L' := ⟨h.bel.drew, h.b4, h.b7, h.rd.drew⟩
theorem Mid.fin {w wm : World} {N : Nat → Prop} {most g c' : Nat} {a' : Option Addr} {L' : List Lt} (h : Mid w wm N most g a' c' L') (hN : ∀ z, N z → z < w.heap.size) :
    Rv (st2 wm (w.heap.size + 1) most (.slice a' L'.length c')) (NN N w (st2 wm (w.heap.size + 1) most (.slice a' L'.length c'))) (qv most a' L'.length c') most L' ∧ Below w.heap.size w (st2 wm (w.heap.size + 1) most (.slice a' L'.length c')) ∧
      (st2 wm (w.heap.size + 1) most (.slice a' L'.length c')).cell? ⟨w.heap.size + 1, 0, none⟩ = some (.int .i64 (most : Nat)) ∧ (st2 wm (w.heap.size + 1) most (.slice a' L'.length c')).cell? ⟨w.heap.size + 1, 1, none⟩ = some (.slice a' L'.length c') := by
  obtain ⟨c0, c1⟩ := st2_cells (most := most) (V := .slice a' L'.length c') h.b4
  have hap := h.rd.apart (g := w.heap.size + 1) (fun z hz => by
    rcases hz with hz | ⟨hz, _⟩
    · have := hN z hz; omega
    · omega)
  refine ⟨⟨a', c', rfl, (h.rd.st2 hap).more fun z hz => ?_⟩, Below.st2 h.bel (by omega), c0, c1⟩
  rcases hz with hz | ⟨hz, hz'⟩
  · exact .inl hz
  · refine .inr ⟨by omega, ?_⟩
    unfold st2
    simpa [World.setCell] using hz'
set_option maxRecDepth 100000 in
set_option maxHeartbeats 6400000 in
/-- Twice of the document, by what Put says -/
theorem rtwice_by {w : World} {N : Nat → Prop} {a : Option Addr} {c most : Nat} {L L' : List Lt} (h : Rd w N a c L) (hN : ∀ z, N z → z < w.heap.size) (k : Int) {f t : Int} {s : ByteArray} (hL : L.length ≤ 1000000) (hget : L[plc k L.length]? = some (f, t, s)) {code : Int}
    (hput : ∀ W, Below w.heap.size w W → Calls Try.prog 21 #[qv most a L.length c, .agg #[.int .i64 f, .int .i64 t, .string s]] W (RPost W N most L' code)) :
    Calls Try.prog 23 #[qv most a L.length c, .int .i64 k] w (BPost w N most L' (.bool (code == 0))) := by
  have hne : L ≠ [] := by rintro rfl; simp at hget
  have hpl := plc_lt k (List.length_pos_iff.2 hne)
  obtain ⟨b, rfl, _, hbl⟩ := h.there hne
  have hbox := Wb.new w most (.slice (some ⟨b, 0, none⟩) L.length c)
  have HP := Lib.hid (fun W => rplace_ok W most L.length c (some ⟨b, 0, none⟩) k (List.length_pos_iff.2 hne) hL)
  have HPUT := Lib.hid hput
  have HR := Lib.hid h
  have HB := Lib.hid hbox
  have HN := Lib.hid hN
  obtain ⟨x0, x1⟩ := hbox.net
  clear hbox h hL hne hput hN
  generalize plc k L.length = p at *
  unfold qv at HP HPUT ⊢
  go_enter Try.func23, Try.ntmps23
  go_wp2_with fail
  generalize (w.alloc (.cells #[.int .i64 (most : Nat), .slice (some ⟨b, 0, none⟩) L.length c] 44)).alloc (.cells #[.int .i64 0, .slice none 0 0] 44) = w1 at *
  refine (HP.out _).mono ?_
  rintro e w2 ⟨rfl, hb2⟩
  have hB2 := HB.out.below hb2 (by have := HB.out.lt; omega)
  have hR2 := HR.out.below hB2.bel
  obtain ⟨b', hb', _, _, z0, z1, z2⟩ := hR2.get hget
  injection hb' with hb'
  injection hb' with hb'
  subst hb'
  obtain ⟨v0, v1⟩ := hB2.net
  have HB2 := Lib.hid hB2
  have hp1 : (p : Int) < (L.length : Int) := by omega
  have hp0 : (0 : Int) ≤ (p : Int) := by omega
  have hlt2 := hB2.lt
  clear hB2 hR2 hb2 HB HP
  go_wp2_with fail
  have hlw : w.heap.size < w2.heap.size := by omega
  have hlb : b < w2.heap.size := cell_lt z0
  have nq : ¬ w.heap.size = w2.heap.size := by omega
  have nb : ¬ b = w2.heap.size := by omega
  go_region_held3 (fun w' => w'.cell? ⟨w.heap.size, 0, none⟩ = some (.int .i64 (most : Nat)) ∧ w'.cell? ⟨w.heap.size, 1, none⟩ = some (.slice (some ⟨b, 0, none⟩) L.length c) ∧ w'.cell? ⟨b, p * 3, none⟩ = some (.int .i64 f) ∧ w'.cell? ⟨b, p * 3 + 1, none⟩ = some (.int .i64 t) ∧ w'.cell? ⟨b, p * 3 + 2, none⟩ = some (.string s)) (go_keep)
    (first
      | (go_at_call 21; refine (HPUT.out _ (HB2.out.bel.drew)).mono ?_; rintro e w5 ⟨v, rfl, hrv, hb5⟩; obtain ⟨a', c', rfl, hr'⟩ := hrv; unfold qv; have y0 := (hb5.cell (p := ⟨w.heap.size, 0, none⟩) hlw).trans v0; have y1 := (hb5.cell (p := ⟨w.heap.size, 1, none⟩) hlw).trans v1; have y2 := (hb5.cell (p := ⟨b, p * 3, none⟩) hlb).trans z0; have y3 := (hb5.cell (p := ⟨b, p * 3 + 1, none⟩) hlb).trans z1; have y4 := (hb5.cell (p := ⟨b, p * 3 + 2, none⟩) hlb).trans z2; have ny0 := World.new_ne w5 _ y0; have ny1 := World.new_ne w5 _ y2; have HMID := Lib.hid (Mid.a (N := N) HB2.out ((Below.refl w2.heap.size w2).drew) hb5 hr'))
      | (go_at_call 21; refine (HPUT.out _ ((HB2.out.bel.alloc HB2.out.bel.size _).drew)).mono ?_; rintro e w5 ⟨v, rfl, hrv, hb5⟩; obtain ⟨a', c', rfl, hr'⟩ := hrv; unfold qv; have hz4 : w5.heap[w2.heap.size]? = some (.cells #[.int .i64 0, .slice none 0 0] 44 (0, 0)) := (hb5.block w2.heap.size (by simp)).trans (heap_alloc_new w2 _); have y0 := (hb5.cell (p := ⟨w.heap.size, 0, none⟩) (by simp; omega)).trans ((((Below.refl w2.heap.size w2).alloc (Nat.le_refl _) _).cell (p := ⟨w.heap.size, 0, none⟩) hlw).trans v0); have y1 := (hb5.cell (p := ⟨w.heap.size, 1, none⟩) (by simp; omega)).trans ((((Below.refl w2.heap.size w2).alloc (Nat.le_refl _) _).cell (p := ⟨w.heap.size, 1, none⟩) hlw).trans v1); have y2 := (hb5.cell (p := ⟨b, p * 3, none⟩) (by simp; omega)).trans ((((Below.refl w2.heap.size w2).alloc (Nat.le_refl _) _).cell (p := ⟨b, p * 3, none⟩) hlb).trans z0); have y3 := (hb5.cell (p := ⟨b, p * 3 + 1, none⟩) (by simp; omega)).trans ((((Below.refl w2.heap.size w2).alloc (Nat.le_refl _) _).cell (p := ⟨b, p * 3 + 1, none⟩) hlb).trans z1); have y4 := (hb5.cell (p := ⟨b, p * 3 + 2, none⟩) (by simp; omega)).trans ((((Below.refl w2.heap.size w2).alloc (Nat.le_refl _) _).cell (p := ⟨b, p * 3 + 2, none⟩) hlb).trans z2); have s0 : w5.cell? ⟨w2.heap.size, 0, none⟩ = some (.int .i64 0) := by { rw [cell_of_row _ _ _ _ _ _ hz4]; rfl }; have s1 : w5.cell? ⟨w2.heap.size, 1, none⟩ = some (.slice none 0 0) := by { rw [cell_of_row _ _ _ _ _ _ hz4]; rfl }; have g0 := frozen_of_row _ _ 0 _ _ hz4; have g1 := frozen_of_row _ _ 1 _ _ hz4; have t0 := far2 (g := w2.heap.size) (u0 := .int .i64 (most : Nat)) (u1 := .slice a' L'.length c') y0 nq; have t1 := far2 (g := w2.heap.size) (u0 := .int .i64 (most : Nat)) (u1 := .slice a' L'.length c') y1 nq; have t2 := far2 (g := w2.heap.size) (u0 := .int .i64 (most : Nat)) (u1 := .slice a' L'.length c') y2 nb; have t3 := far2 (g := w2.heap.size) (u0 := .int .i64 (most : Nat)) (u1 := .slice a' L'.length c') y3 nb; have t4 := far2 (g := w2.heap.size) (u0 := .int .i64 (most : Nat)) (u1 := .slice a' L'.length c') y4 nb; have HMID := Lib.hid (Mid.b (N := N) (most := most) HB2.out (((Below.refl w2.heap.size w2).alloc (Nat.le_refl _) _).drew) hb5 hr' HN.out hz4 (by simp))))
  all_goals
    first
      | generalize w5.alloc (.cells #[.int .i64 (most : Nat), .slice a' L'.length c'] 44) = wm at *
      | (clear t0 t1 t2 t3 t4 s0 s1 g0 g1 hz4; generalize (w5.setCell ⟨w2.heap.size, 0, none⟩ (.int .i64 (most : Nat))).setCell ⟨w2.heap.size, 1, none⟩ (.slice a' L'.length c') = wm at *)
    have m0 := cell_of_row _ _ 0 _ _ _ HMID.out.b7
    have m1 := cell_of_row _ _ 1 _ _ _ HMID.out.b7
    have m2 := cell_of_row _ _ 0 _ _ _ HMID.out.b4
    have m3 := cell_of_row _ _ 1 _ _ _ HMID.out.b4
    have m4 := frozen_of_row _ _ 0 _ _ HMID.out.b4
    have m5 := frozen_of_row _ _ 1 _ _ HMID.out.b4
    simp only [List.getElem?_toArray, List.getElem?_cons_zero, List.getElem?_cons_succ] at m0 m1 m2 m3
    clear y0 y1 y2 y3 y4 v0 v1 z0 z1 z2 hr' hb5
    go_wp2_with fail
    obtain ⟨q1, q2, c0, c1⟩ := HMID.out.fin HN.out
    refine bodyPost_ret (v := .tuple #[qv most a' L'.length c', .bool (code == 0)]) ?_ rfl ⟨_, rfl, q1, q2⟩
    unfold st2 at c0 c1
    unfold qv
    simp [results, Try.results23, go_sem, c0, c1]
end Go.Proofs.Ytflaghnbbfdamaa
