/-
  The document's function Put.
-/
import Derived.Test.YtflaghnbbfdamaaNetQ
import Derived.Maps.AppendAt
import Derived.Deep.DeepCutAuto
import Derived.Deep.CutRange
namespace Go.Proofs.Ytflaghnbbfdamaa
open Go.RowKit

theorem info65 : (Try.prog.info? 65).map (fun i => (i.zero, i.size, i.bytes)) = some (some (.agg #[.int .i64 0, .int .i64 0, .string ⟨#[]⟩]), 3, 32) := by kernel_rfl
/-- what Put of the document holds: three boxes -/
structure Pb (w wx : World) (most : Nat) (V : Value) (f t : Int) (s : ByteArray) : Prop where
  bel : Below w.heap.size w wx
  b2 : wx.heap[w.heap.size]? = some (.cells #[.int .i64 (most : Nat), V] 44 (0, 0))
  b3 : wx.heap[w.heap.size + 1]? = some (.cells #[.int .i64 f, .int .i64 t, .string s] 65 (0, 0))
  b4 : wx.heap[w.heap.size + 1 + 1]? = some (.cells #[.int .i64 0, .slice none 0 0] 44 (0, 0))
theorem Pb.new (w : World) (most : Nat) (V : Value) (f t : Int) (s : ByteArray) :
    Pb w (((w.alloc (.cells #[.int .i64 (most : Nat), V] 44)).alloc (.cells #[.int .i64 f, .int .i64 t, .string s] 65)).alloc (.cells #[.int .i64 0, .slice none 0 0] 44)) most V f t s := by
  refine ⟨(((Below.refl _ _).alloc (Nat.le_refl _) _).alloc (by simp) _).alloc (by simp; omega) _, ?_, ?_, ?_⟩
  · rw [Below.heap_alloc _ _ _ (by simp; omega), Below.heap_alloc _ _ _ (by simp)]
    exact heap_alloc_new w _
  · rw [Below.heap_alloc _ _ _ (by simp)]
    exact heap_alloc2_new w _ _
  · have := heap_alloc_new ((w.alloc (.cells #[.int .i64 (most : Nat), V] 44)).alloc (.cells #[.int .i64 f, .int .i64 t, .string s] 65)) (.cells #[.int .i64 0, .slice none 0 0] 44)
    simpa using this
section
variable {w wx wy : World} {most : Nat} {V V' : Value} {f t : Int} {s : ByteArray}
theorem Pb.lt (h : Pb w wx most V f t s) : w.heap.size + 1 + 1 < wx.heap.size := by
  rcases Nat.lt_or_ge (w.heap.size + 1 + 1) wx.heap.size with hlt | hge
  · exact hlt
  · have := h.b4
    rw [Array.getElem?_eq_none hge] at this
    cases this
theorem Pb.below (h : Pb w wx most V f t s) (hb : Below wx.heap.size wx wy) : Pb w wy most V f t s :=
  ⟨h.bel.trans (hb.mono h.bel.size), (hb.block _ (by have := h.lt; omega)).trans h.b2, (hb.block _ (by have := h.lt; omega)).trans h.b3, (hb.block _ h.lt).trans h.b4⟩
theorem Pb.drew (h : Pb w wx most V f t s) : Pb w wx.drew most V f t s := ⟨h.bel.drew, h.b2, h.b3, h.b4⟩
theorem Pb.net (h : Pb w wx most V f t s) : wx.cell? ⟨w.heap.size, 0, none⟩ = some (.int .i64 (most : Nat)) ∧ wx.cell? ⟨w.heap.size, 1, none⟩ = some V := by
  refine ⟨?_, ?_⟩ <;> (rw [cell_of_row _ _ _ _ _ _ h.b2]; rfl)
theorem Pb.let_ (h : Pb w wx most V f t s) : wx.cell? ⟨w.heap.size + 1, 0, none⟩ = some (.int .i64 f) ∧ wx.cell? ⟨w.heap.size + 1, 1, none⟩ = some (.int .i64 t) ∧ wx.cell? ⟨w.heap.size + 1, 2, none⟩ = some (.string s) := by
  refine ⟨?_, ?_, ?_⟩ <;> (rw [cell_of_row _ _ _ _ _ _ h.b3]; rfl)
theorem Pb.res (h : Pb w wx most V f t s) : wx.cell? ⟨w.heap.size + 1 + 1, 0, none⟩ = some (.int .i64 0) ∧ wx.cell? ⟨w.heap.size + 1 + 1, 1, none⟩ = some (.slice none 0 0) ∧ wx.frozen? ⟨w.heap.size + 1 + 1, 0, none⟩ = false ∧ wx.frozen? ⟨w.heap.size + 1 + 1, 1, none⟩ = false := by
  refine ⟨?_, ?_, frozen_of_row _ _ _ _ _ h.b4, frozen_of_row _ _ _ _ _ h.b4⟩ <;> (rw [cell_of_row _ _ _ _ _ _ h.b4]; rfl)
end
/-- the world behind the store of a result in block g -/
def st2 (wx : World) (g most : Nat) (V : Value) : World := (wx.setCell ⟨g, 0, none⟩ (.int .i64 (most : Nat))).setCell ⟨g, 1, none⟩ V
theorem st2_cells {wx : World} {g most : Nat} {u0 u1 V : Value} {ty : TypeId} (h : wx.heap[g]? = some (.cells #[u0, u1] ty (0, 0))) : (st2 wx g most V).cell? ⟨g, 0, none⟩ = some (.int .i64 (most : Nat)) ∧ (st2 wx g most V).cell? ⟨g, 1, none⟩ = some V := by
  have h2 := heap_setCell_same _ _ 1 _ _ V (heap_setCell_same _ _ 0 _ _ (.int .i64 (most : Nat)) h)
  exact ⟨by unfold st2; rw [cell_of_row _ _ _ _ _ _ h2]; rfl, by unfold st2; rw [cell_of_row _ _ _ _ _ _ h2]; rfl⟩
theorem Rd.st2 {wx : World} {N : Nat → Prop} {a : Option Addr} {c g most : Nat} {L : List Lt} {V : Value} (h : Rd wx N a c L) (hg : ∀ b, a = some ⟨b, 0, none⟩ → b ≠ g) : Rd (st2 wx g most V) N a c L :=
  (h.store (p := ⟨g, 0, none⟩) hg _).store (p := ⟨g, 1, none⟩) hg _
theorem Below.st2 {B g most : Nat} {w wx : World} {V : Value} (h : Below B w wx) (hg : B ≤ g) : Below B w (Go.Proofs.Ytflaghnbbfdamaa.st2 wx g most V) :=
  (h.setCell (p := ⟨g, 0, none⟩) hg _).setCell (p := ⟨g, 1, none⟩) hg _
/-- the same net handed back -/
theorem Pb.same {w wx : World} {N : Nat → Prop} {most c : Nat} {a : Option Addr} {L : List Lt} {f t : Int} {s : ByteArray} (h : Pb w wx most (.slice a L.length c) f t s) (hR : Rd w N a c L) :
    Rv (st2 wx (w.heap.size + 1 + 1) most (.slice a L.length c)) (NN N w (st2 wx (w.heap.size + 1 + 1) most (.slice a L.length c))) (qv most a L.length c) most L ∧ Below w.heap.size w (st2 wx (w.heap.size + 1 + 1) most (.slice a L.length c)) := by
  have hb : Below w.heap.size w (st2 wx (w.heap.size + 1 + 1) most (.slice a L.length c)) := Below.st2 h.bel (by omega)
  exact ⟨⟨a, c, rfl, (hR.below hb).more fun _ hx => .inl hx⟩, hb⟩

theorem rdone {w wx : World} {N : Nat → Prop} {B g most c : Nat} {a : Option Addr} {L : List Lt} (hb : Below w.heap.size w wx) (hR : Rd wx (fun x => B ≤ x) a c L) (hg : w.heap.size ≤ g) (hgB : g < B) :
    Rv (st2 wx g most (.slice a L.length c)) (NN N w (st2 wx g most (.slice a L.length c))) (qv most a L.length c) most L ∧ Below w.heap.size w (st2 wx g most (.slice a L.length c)) := by
  have hge : ∀ b, a = some ⟨b, 0, none⟩ → B ≤ b := fun b e => by
    rcases hR.2.2 with ⟨h1, _⟩ | ⟨b', h1, h2, _⟩
    · rw [h1] at e; cases e
    · rw [h1] at e; injection e with e; injection e with e; subst e; exact h2
  exact ⟨⟨a, c, rfl, (hR.st2 fun b e => by have := hge b e; omega).fresh (by omega)⟩, Below.st2 hb hg⟩
/-- what the document's call hands back -/
def RPost (w : World) (N : Nat → Prop) (most : Nat) (L : List Lt) (code : Int) (e : Ending) (w' : World) : Prop :=
  ∃ v, e = .returned (.tuple #[v, .int .i64 code]) ∧ Rv w' (NN N w w') v most L ∧ Below w.heap.size w w'

/-- the three boxes, the net stored in the last -/
theorem box_same (w : World) (most : Nat) (V : Value) (f t : Int) (s : ByteArray) :
    Below w.heap.size w (((w.alloc (.cells #[.int .i64 (most : Nat), V] 44)).alloc (.cells #[.int .i64 f, .int .i64 t, .string s] 65)).alloc (.cells #[.int .i64 (most : Nat), V] 44)) ∧
      (((w.alloc (.cells #[.int .i64 (most : Nat), V] 44)).alloc (.cells #[.int .i64 f, .int .i64 t, .string s] 65)).alloc (.cells #[.int .i64 (most : Nat), V] 44)).cell? ⟨w.heap.size + 1 + 1, 0, none⟩ = some (.int .i64 (most : Nat)) ∧
      (((w.alloc (.cells #[.int .i64 (most : Nat), V] 44)).alloc (.cells #[.int .i64 f, .int .i64 t, .string s] 65)).alloc (.cells #[.int .i64 (most : Nat), V] 44)).cell? ⟨w.heap.size + 1 + 1, 1, none⟩ = some V := by
  have := box2 ((w.alloc (.cells #[.int .i64 (most : Nat), V] 44)).alloc (.cells #[.int .i64 f, .int .i64 t, .string s] 65)) (.int .i64 (most : Nat)) V 44
  have hs : ((w.alloc (.cells #[.int .i64 (most : Nat), V] 44)).alloc (.cells #[.int .i64 f, .int .i64 t, .string s] 65)).heap.size = w.heap.size + 1 + 1 := by simp
  rw [hs] at this
  exact ⟨(((Below.refl _ _).alloc (Nat.le_refl _) _).alloc (by simp) _).alloc (by simp; omega) _, this.1, this.2⟩
set_option maxRecDepth 100000 in
set_option maxHeartbeats 3200000 in
/-- Put of the document: an argument is none -/
theorem rput_arg {w : World} {N : Nat → Prop} {a : Option Addr} {c most : Nat} {L : List Lt} (h : Rd w N a c L) (f t : Int) (s : ByteArray) (hbad : f < 0 ∨ (0 ≤ f ∧ 255 < f) ∨ (0 ≤ f ∧ f ≤ 255 ∧ t < 0) ∨ (0 ≤ f ∧ f ≤ 255 ∧ 0 ≤ t ∧ 255 < t)) :
    Calls Try.prog 21 #[qv most a L.length c, .agg #[.int .i64 f, .int .i64 t, .string s]] w (RPost w N most L 1) := by
  have hbox := Pb.new w most (.slice a L.length c) f t s
  have HR := Lib.hid h
  obtain ⟨hbel, c0, c1⟩ := box_same w most (.slice a L.length c) f t s
  obtain ⟨x0, x1⟩ := hbox.net
  obtain ⟨y0, y1, y2⟩ := hbox.let_
  obtain ⟨z0, z1, z2, z3⟩ := hbox.res
  clear hbox h
  unfold qv
  rcases hbad with h1 | ⟨h1, h2⟩ | ⟨h1, h2, h3⟩ | ⟨h1, h2, h3, h4⟩
  all_goals
    go_enter Try.func21, Try.ntmps21
    go_wp2_with fail
    refine bodyPost_ret (v := .tuple #[qv most a L.length c, .int .i64 1]) ?_ rfl ⟨_, rfl, ⟨a, c, rfl, (HR.out.below hbel).more fun _ hx => .inl hx⟩, hbel⟩
    unfold qv
    simp [results, Try.results21, go_sem, c0, c1]
set_option maxRecDepth 100000 in
set_option maxHeartbeats 3200000 in
/-- Put of the document: too long -/
theorem rput_long {w : World} {N : Nat → Prop} {a : Option Addr} {c most : Nat} {L : List Lt} (h : Rd w N a c L) (f t : Int) (s : ByteArray) (hf : 0 ≤ f ∧ f ≤ 255) (ht : 0 ≤ t ∧ t ≤ 255) (hs : 1048576 < s.size) :
    Calls Try.prog 21 #[qv most a L.length c, .agg #[.int .i64 f, .int .i64 t, .string s]] w (RPost w N most L 4) := by
  have hbox := Pb.new w most (.slice a L.length c) f t s
  have HR := Lib.hid h
  obtain ⟨hbel, c0, c1⟩ := box_same w most (.slice a L.length c) f t s
  obtain ⟨x0, x1⟩ := hbox.net
  obtain ⟨y0, y1, y2⟩ := hbox.let_
  obtain ⟨z0, z1, z2, z3⟩ := hbox.res
  obtain ⟨f0, f1⟩ := hf
  obtain ⟨t0, t1⟩ := ht
  have hsi : (1048576 : Int) < (s.size : Int) := by omega
  clear hbox h
  unfold qv
  go_enter Try.func21, Try.ntmps21
  go_wp2_with fail
  refine bodyPost_ret (v := .tuple #[qv most a L.length c, .int .i64 4]) ?_ rfl ⟨_, rfl, ⟨a, c, rfl, (HR.out.below hbel).more fun _ hx => .inl hx⟩, hbel⟩
  unfold qv
  simp [results, Try.results21, go_sem, c0, c1]

set_option maxRecDepth 100000 in
set_option maxHeartbeats 6400000 in
/-- Put of the document: that way is full -/
theorem rput_full {w : World} {N : Nat → Prop} {a : Option Addr} {c most : Nat} {L : List Lt} (h : Rd w N a c L) (f t : Int) (s : ByteArray) (hg : Good (f, t, s)) (hL : L.length ≤ 1000000) (hfull : most ≤ ct L f t) :
    Calls Try.prog 21 #[qv most a L.length c, .agg #[.int .i64 f, .int .i64 t, .string s]] w (RPost w N most L 2) := by
  have hbox := Pb.new w most (.slice a L.length c) f t s
  have hbt : ∀ W, Below w.heap.size w W → Calls Try.prog 25 #[qv most a L.length c, .int .i64 f, .int .i64 t] W fun e w' => e = .returned (.int .i64 (ct L f t : Nat)) ∧ Below W.heap.size W w' := fun W hb => rbetween_ok (h.below hb) hL f t
  have HBT := Lib.hid hbt
  have HR := Lib.hid h
  have HB := Lib.hid hbox
  obtain ⟨x0, x1⟩ := hbox.net
  obtain ⟨y0, y1, y2⟩ := hbox.let_
  obtain ⟨f0, f1, t0, t1, b1⟩ := hg
  simp only at f0 f1 t0 t1 b1
  have hsi : (s.size : Int) ≤ (1048576 : Int) := by omega
  have hfi : (most : Int) ≤ ((ct L f t : Nat) : Int) := by omega
  clear hbox h hbt b1 hfull
  unfold qv at HBT ⊢
  generalize ct L f t = q at *
  go_enter Try.func21, Try.ntmps21
  go_wp2_with fail
  generalize ((w.alloc (.cells #[.int .i64 (most : Nat), .slice a L.length c] 44)).alloc (.cells #[.int .i64 f, .int .i64 t, .string s] 65)).alloc (.cells #[.int .i64 0, .slice none 0 0] 44) = w1 at *
  have hl1 : w.heap.size < w1.heap.size := cell_lt x0
  have hl2 : w.heap.size + 1 < w1.heap.size := cell_lt y0
  go_cut [39] (fun tv wx => tv = .bool true ∧ Hid (Pb w wx most (.slice a L.length c) f t s))
  case first =>
    go_region_held3 (fun w' => w'.cell? ⟨w.heap.size, 0, none⟩ = some (.int .i64 (most : Nat)) ∧ w'.cell? ⟨w.heap.size, 1, none⟩ = some (.slice a L.length c) ∧ w'.cell? ⟨w.heap.size + 1, 0, none⟩ = some (.int .i64 f) ∧ w'.cell? ⟨w.heap.size + 1, 1, none⟩ = some (.int .i64 t)) (go_keep)
      ((go_at_call 25; refine (HBT.out _ (by first | exact HB.out.bel.drew | exact HB.out.bel)).mono ?_; rintro e w5 ⟨rfl, hb⟩; have v0 := (hb.cell (p := ⟨w.heap.size, 0, none⟩) hl1).trans x0; have v1 := (hb.cell (p := ⟨w.heap.size, 1, none⟩) hl1).trans x1; have v2 := (hb.cell (p := ⟨w.heap.size + 1, 0, none⟩) hl2).trans y0; have v3 := (hb.cell (p := ⟨w.heap.size + 1, 1, none⟩) hl2).trans y1))
    all_goals
      go_wp2_with fail
      go_meet
      refine ⟨?_, HB.out.drew.below hb⟩
      simp
  case rest =>
  obtain ⟨rfl, HB2⟩ := hcut
  obtain ⟨v0, v1⟩ := HB2.out.net
  obtain ⟨z0, z1, z2, z3⟩ := HB2.out.res
  clear x0 x1 y0 y1 y2 hl1 hl2 HB
  go_wp2_with fail
  obtain ⟨q1, q2⟩ := HB2.out.same HR.out
  obtain ⟨c0, c1⟩ := st2_cells (most := most) (V := .slice a L.length c) HB2.out.b4
  refine bodyPost_ret (v := .tuple #[qv most a L.length c, .int .i64 2]) ?_ rfl ⟨_, rfl, q1, q2⟩
  unfold st2 at c0 c1
  unfold qv
  simp [results, Try.results21, go_sem, c0, c1]

theorem Pb.far {w wx w5 : World} {most : Nat} {V v : Value} {f t : Int} {s : ByteArray} {n : Nat} {xs : List Value} (h : Pb w wx most V f t s) (hown : wx.ownsRow (w.heap.size + 3) 65 3 v n xs) (hg : wx.grownBy w5 v.ownBlock) : Pb w w5 most V f t s := by
  have hl := h.lt
  have hm : ∀ x, x < w.heap.size + 3 → w5.heap[x]? = wx.heap[x]? := fun x hx => hg.block x (by omega) (fun e => by have := (own_lt hown x e.symm).1; omega)
  exact ⟨⟨hg.os.trans h.bel.os, hg.tape.trans h.bel.tape, hg.output.trans h.bel.output, Nat.le_trans h.bel.size hg.size, fun x hx => (hm x (by omega)).trans (h.bel.block x hx)⟩, (hm _ (by omega)).trans h.b2, (hm _ (by omega)).trans h.b3, (hm _ (by omega)).trans h.b4⟩
theorem add_off (b o j : Nat) : (⟨b, o, none⟩ : Addr).add j = ⟨b, o + j, none⟩ := by unfold Addr.add; split <;> simp_all
theorem Rd.cells {w : World} {N : Nat → Prop} {b c : Nat} {L : List Lt} (h : Rd w N (some ⟨b, 0, none⟩) c L) (o j : Nat) (u : Value) (hu : (lets L)[o + j]? = some u) : w.cell? ((⟨b, o, none⟩ : Addr).add j) = some u := by
  have hj := (List.getElem?_eq_some_iff.1 hu).1
  rw [lets_length] at hj
  obtain ⟨i, r, hr, he⟩ : ∃ i r, r < 3 ∧ o + j = i * 3 + r := ⟨(o + j) / 3, (o + j) % 3, Nat.mod_lt _ (by omega), by omega⟩
  have hi : i < L.length := by omega
  obtain ⟨l0, l1, l2⟩ := lets_get L i L[i] (List.getElem?_eq_getElem hi)
  obtain ⟨b', hb, _, _, k0, k1, k2⟩ := h.get (List.getElem?_eq_getElem hi)
  injection hb with hb
  injection hb with hb
  subst hb
  rw [add_off, he]
  rw [he] at hu
  rcases (by omega : r = 0 ∨ r = 1 ∨ r = 2) with rfl | rfl | rfl
  · rw [Nat.add_zero] at hu ⊢; rw [← hu, l0]; exact k0
  · rw [← hu, l1]; exact k1
  · rw [← hu, l2]; exact k2
theorem own_nil (w : World) (B e size : Nat) : w.ownsRow B e size (.slice none 0 0) 0 [] := ⟨by simp, .inl ⟨rfl, rfl⟩⟩
set_option maxRecDepth 100000 in
set_option maxHeartbeats 6400000 in
/-- Put of the document: there is room -/
theorem rput_ok {w : World} {N : Nat → Prop} {a : Option Addr} {c most : Nat} {L : List Lt} (h : Rd w N a c L) (f t : Int) (s : ByteArray) (hg : Good (f, t, s)) (hL : L.length ≤ 1000000) (hfull : ct L f t < most) :
    Calls Try.prog 21 #[qv most a L.length c, .agg #[.int .i64 f, .int .i64 t, .string s]] w (RPost w N most (L ++ [(f, t, s)]) 0) := by
  have hbox := Pb.new w most (.slice a L.length c) f t s
  have hbt : ∀ W, Below w.heap.size w W → Calls Try.prog 25 #[qv most a L.length c, .int .i64 f, .int .i64 t] W fun e w' => e = .returned (.int .i64 (ct L f t : Nat)) ∧ Below W.heap.size W w' := fun W hb => rbetween_ok (h.below hb) hL f t
  have HBT := Lib.hid hbt
  have HR := Lib.hid h
  have HB := Lib.hid hbox
  have HLL := Lib.hid hL
  obtain ⟨i0, hi0, hz0, hz1, hz2⟩ := info_parts info65
  obtain ⟨x0, x1⟩ := hbox.net
  obtain ⟨y0, y1, y2⟩ := hbox.let_
  obtain ⟨f0, f1, t0, t1, b1⟩ := hg
  simp only at f0 f1 t0 t1 b1
  have hsi : (s.size : Int) ≤ (1048576 : Int) := by omega
  have hfi : ¬ (most : Int) ≤ ((ct L f t : Nat) : Int) := by omega
  clear hbox h hbt b1 hfull hL
  unfold qv at HBT ⊢
  generalize ct L f t = q at *
  go_enter Try.func21, Try.ntmps21
  go_wp2_with fail
  generalize ((w.alloc (.cells #[.int .i64 (most : Nat), .slice a L.length c] 44)).alloc (.cells #[.int .i64 f, .int .i64 t, .string s] 65)).alloc (.cells #[.int .i64 0, .slice none 0 0] 44) = w1 at *
  have hl1 : w.heap.size < w1.heap.size := cell_lt x0
  have hl2 : w.heap.size + 1 < w1.heap.size := cell_lt y0
  go_cut [39] (fun tv wx => tv = .bool false ∧ Hid (Pb w wx most (.slice a L.length c) f t s))
  case first =>
    go_region_held3 (fun w' => w'.cell? ⟨w.heap.size, 0, none⟩ = some (.int .i64 (most : Nat)) ∧ w'.cell? ⟨w.heap.size, 1, none⟩ = some (.slice a L.length c) ∧ w'.cell? ⟨w.heap.size + 1, 0, none⟩ = some (.int .i64 f) ∧ w'.cell? ⟨w.heap.size + 1, 1, none⟩ = some (.int .i64 t)) (go_keep)
      ((go_at_call 25; refine (HBT.out _ (by first | exact HB.out.bel.drew | exact HB.out.bel)).mono ?_; rintro e w5 ⟨rfl, hb⟩; have v0 := (hb.cell (p := ⟨w.heap.size, 0, none⟩) hl1).trans x0; have v1 := (hb.cell (p := ⟨w.heap.size, 1, none⟩) hl1).trans x1; have v2 := (hb.cell (p := ⟨w.heap.size + 1, 0, none⟩) hl2).trans y0; have v3 := (hb.cell (p := ⟨w.heap.size + 1, 1, none⟩) hl2).trans y1))
    all_goals
      go_wp2_with fail
      go_meet
      refine ⟨?_, HB.out.drew.below hb⟩
      simp
      omega
  case rest =>
  obtain ⟨rfl, HB2⟩ := hcut
  obtain ⟨v0, v1⟩ := HB2.out.net
  clear x0 x1 y0 y1 y2 hl1 hl2 HB hfi hsi
  go_upto_region 8 with fail
  go_cut [6] (fun tv wx => Hid (Pb w wx most (.slice a L.length c) f t s) ∧ Hid (wx.ownsRow (w.heap.size + 3) 65 3 tv L.length (lets L)))
  case first =>
    have hR2 := HR.out.below HB2.out.bel
    have hsz := HB2.out.lt
    rcases (⟨hR2.1, hR2.2.1, hR2.2.2⟩ : _ ∧ _ ∧ _) with ⟨hlc, hcm, ⟨rfl, rfl, rfl⟩ | ⟨b, rfl, _, hbl, _⟩⟩
    · go_wp2_with fail
      go_meet
      exact ⟨HB2.out, own_nil _ _ _ _⟩
    · have s1 := lets_length L
      have s2 := Lib.hid (fun j u (hu : (lets L)[j]? = some u) => hR2.cells 0 j u (by rw [Nat.zero_add]; exact hu))
      have s3 := HLL.out
      have HS1 := Lib.hid s1
      clear s1 hR2
      go_wp2_with (at_builtin; refine wpList_append_own_at _ rfl _ _ 42 rfl (w.heap.size + 3) 65 i0 _ 3 32 Try.underlying42 hi0 hz0 hz1 hz2 rfl (by omega) _ 0 [] rfl (own_nil _ _ _ _) ⟨b, 0, none⟩ L.length c (lets L) rfl HS1.out s2.out (lets_one L) (by unfold maxLen; omega) (by omega) (by omega) ?_)
      intro v' w5 hown hgrow _ _
      have hb5 := HB2.out.far (own_nil _ _ _ _) hgrow
      have HO5 := Lib.hid hown
      have HB5 := Lib.hid hb5
      clear hown hgrow hb5
      go_wp2_with fail
      go_meet
      exact ⟨HB5.out, HO5.out⟩
  case rest =>
  obtain ⟨HB3, HO3⟩ := hcut
  obtain ⟨y0, y1, y2⟩ := HB3.out.let_
  have hsz := HB3.out.lt
  have s3 := HLL.out
  clear v0 v1 HB2
  go_wp2_with (at_builtin; refine wpList_append_own_at _ rfl _ _ 42 rfl (w.heap.size + 3) 65 i0 _ 3 32 Try.underlying42 hi0 hz0 hz1 hz2 rfl (by omega) _ L.length (lets L) rfl (HO3.out.alloc _) ⟨wc.heap.size, 0, none⟩ 1 1 [.int .i64 f, .int .i64 t, .string s] rfl rfl (World.news_of_block (cs := #[.int .i64 f, .int .i64 t, .string s]) (t := 65) (fr := (0, 0)) (heap_alloc_new wc _)) (by simp [Value.oneCell']) (by unfold maxLen; omega) (by omega) (by simp; omega) ?_)
  intro v' w5 hown hgrow _ _
  have hb4 : Pb w (wc.alloc (.cells #[.int .i64 f, .int .i64 t, .string s] 65)) most (.slice a L.length c) f t s := HB3.out.below ((Below.refl _ _).alloc (Nat.le_refl _) _)
  have hb5 := hb4.far (HO3.out.alloc _) hgrow
  obtain ⟨x0, x1⟩ := hb5.net
  obtain ⟨z0, z1, z2, z3⟩ := hb5.res
  have x2 := frozen_of_row _ _ 1 _ _ hb5.b2
  have hlen : (L ++ [(f, t, s)]).length = L.length + 1 := by simp
  have hown2 : w5.ownsRow (w.heap.size + 3) 65 3 v' (L.length + 1) (lets (L ++ [(f, t, s)])) := by rw [lets_append]; exact hown
  obtain ⟨a', c', rfl, hR', _⟩ := Rd.own hown2 hlen.symm
  have HR5 := Lib.hid hR'
  have HB5 := Lib.hid hb5
  have HLN := Lib.hid hlen
  clear hb4 hb5 hown hown2 hgrow hR' hlen y0 y1 y2 HO3 HB3
  go_wp2_with fail
  have hne : ∀ b, a' = some ⟨b, 0, none⟩ → b ≠ w.heap.size := fun b e => by
    rcases HR5.out.2.2 with ⟨h1, _⟩ | ⟨b', h1, h2, _⟩
    · rw [h1] at e; cases e
    · rw [h1] at e; injection e with e; injection e with e; subst e; have h2 : w.heap.size + 3 ≤ b' := h2; omega
  have hR6 := HR5.out.store (p := ⟨w.heap.size, 1, none⟩) hne (.slice a' (L.length + 1) c')
  have hB6 := HB5.out.bel.setCell (p := ⟨w.heap.size, 1, none⟩) (Nat.le_refl _) (.slice a' (L.length + 1) c')
  have hB4 : (w5.setCell ⟨w.heap.size, 1, none⟩ (.slice a' (L.length + 1) c')).heap[w.heap.size + 1 + 1]? = some (.cells #[.int .i64 0, .slice none 0 0] 44 (0, 0)) := (Below.heap_setCell _ _ _ _ (by show w.heap.size + 1 + 1 ≠ w.heap.size; omega)).trans HB5.out.b4
  obtain ⟨q1, q2⟩ := rdone (N := N) (most := most) (g := w.heap.size + 1 + 1) hB6 hR6 (by omega) (by omega)
  obtain ⟨c0, c1⟩ := st2_cells (most := most) (V := .slice a' (L.length + 1) c') hB4
  rw [HLN.out] at q1 q2
  refine bodyPost_ret (v := .tuple #[qv most a' (L.length + 1) c', .int .i64 0]) ?_ rfl ⟨_, rfl, q1, q2⟩
  unfold st2 at c0 c1
  unfold qv
  simp [results, Try.results21, go_sem, c0, c1]
end Go.Proofs.Ytflaghnbbfdamaa
