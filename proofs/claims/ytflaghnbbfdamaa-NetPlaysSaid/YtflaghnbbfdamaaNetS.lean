/-
  The document's function Take.
-/
import Derived.Test.YtflaghnbbfdamaaNetR
namespace Go.Proofs.Ytflaghnbbfdamaa
open Go.RowKit

theorem own_below {w w5 : World} {B e size n : Nat} {v : Value} {xs : List Value} (hown : w.ownsRow B e size v n xs) (hg : w.grownBy w5 v.ownBlock) (hB : B ≤ w.heap.size) : Below B w w5 :=
  ⟨hg.os, hg.tape, hg.output, hg.size, fun x hx => hg.block x (by omega) (fun e => by have := (own_lt hown x e.symm).1; omega)⟩
theorem rplace_zero (w : World) (most c : Nat) (a : Option Addr) (k : Int) : Calls Try.prog 28 #[qv most a 0 c, .int .i64 k] w fun e w' => e = .returned (.int .i64 (-1)) ∧ Below w.heap.size w w' := by
  unfold qv
  have hbel : Below w.heap.size w (w.alloc (.cells #[.int .i64 (most : Nat), .slice a 0 c] 44)) := (Below.refl _ _).alloc (Nat.le_refl _) _
  obtain ⟨x0, x1⟩ := box2 w (.int .i64 (most : Nat)) (.slice a 0 c) 44
  go_enter Try.func28, Try.ntmps28
  go_wp2_with fail
  go_ret
  exact ⟨rfl, hbel⟩
/-- what Take of the document holds: three boxes -/
structure Tb (w wx : World) (most : Nat) (V : Value) : Prop where
  bel : Below w.heap.size w wx
  b2 : wx.heap[w.heap.size]? = some (.cells #[.int .i64 (most : Nat), V] 44 (0, 0))
  b4 : wx.heap[w.heap.size + 1]? = some (.cells #[.int .i64 0, .slice none 0 0] 44 (0, 0))
  b5 : wx.heap[w.heap.size + 1 + 1]? = some (.cells #[.int .i64 0, .int .i64 0, .string ⟨#[]⟩] 65 (0, 0))
theorem Tb.new (w : World) (most : Nat) (V : Value) :
    Tb w (((w.alloc (.cells #[.int .i64 (most : Nat), V] 44)).alloc (.cells #[.int .i64 0, .slice none 0 0] 44)).alloc (.cells #[.int .i64 0, .int .i64 0, .string ⟨#[]⟩] 65)) most V := by
  refine ⟨(((Below.refl _ _).alloc (Nat.le_refl _) _).alloc (by simp) _).alloc (by simp; omega) _, ?_, ?_, ?_⟩
  · rw [Below.heap_alloc _ _ _ (by simp; omega), Below.heap_alloc _ _ _ (by simp)]
    exact heap_alloc_new w _
  · rw [Below.heap_alloc _ _ _ (by simp)]
    exact heap_alloc2_new w _ _
  · have := heap_alloc_new ((w.alloc (.cells #[.int .i64 (most : Nat), V] 44)).alloc (.cells #[.int .i64 0, .slice none 0 0] 44)) (.cells #[.int .i64 0, .int .i64 0, .string ⟨#[]⟩] 65)
    simpa using this
section
variable {w wx wy : World} {most : Nat} {V V' : Value}
theorem Tb.lt (h : Tb w wx most V) : w.heap.size + 1 + 1 < wx.heap.size := by
  rcases Nat.lt_or_ge (w.heap.size + 1 + 1) wx.heap.size with hlt | hge
  · exact hlt
  · have := h.b5
    rw [Array.getElem?_eq_none hge] at this
    cases this
theorem Tb.below {B : Nat} (h : Tb w wx most V) (hb : Below B wx wy) (hB : w.heap.size + 3 ≤ B) : Tb w wy most V :=
  ⟨h.bel.trans (hb.mono (by omega)), (hb.block _ (by omega)).trans h.b2, (hb.block _ (by omega)).trans h.b4, (hb.block _ (by omega)).trans h.b5⟩
theorem Tb.net (h : Tb w wx most V) : wx.cell? ⟨w.heap.size, 0, none⟩ = some (.int .i64 (most : Nat)) ∧ wx.cell? ⟨w.heap.size, 1, none⟩ = some V := by
  refine ⟨?_, ?_⟩ <;> (rw [cell_of_row _ _ _ _ _ _ h.b2]; rfl)
theorem Tb.res (h : Tb w wx most V) : wx.cell? ⟨w.heap.size + 1, 0, none⟩ = some (.int .i64 0) ∧ wx.cell? ⟨w.heap.size + 1, 1, none⟩ = some (.slice none 0 0) ∧ wx.frozen? ⟨w.heap.size + 1, 0, none⟩ = false ∧ wx.frozen? ⟨w.heap.size + 1, 1, none⟩ = false := by
  refine ⟨?_, ?_, frozen_of_row _ _ _ _ _ h.b4, frozen_of_row _ _ _ _ _ h.b4⟩ <;> (rw [cell_of_row _ _ _ _ _ _ h.b4]; rfl)
theorem Tb.let_ (h : Tb w wx most V) : wx.cell? ⟨w.heap.size + 1 + 1, 0, none⟩ = some (.int .i64 0) ∧ wx.cell? ⟨w.heap.size + 1 + 1, 1, none⟩ = some (.int .i64 0) ∧ wx.cell? ⟨w.heap.size + 1 + 1, 2, none⟩ = some (.string ⟨#[]⟩) ∧
    wx.frozen? ⟨w.heap.size + 1 + 1, 0, none⟩ = false ∧ wx.frozen? ⟨w.heap.size + 1 + 1, 1, none⟩ = false ∧ wx.frozen? ⟨w.heap.size + 1 + 1, 2, none⟩ = false := by
  refine ⟨?_, ?_, ?_, frozen_of_row _ _ _ _ _ h.b5, frozen_of_row _ _ _ _ _ h.b5, frozen_of_row _ _ _ _ _ h.b5⟩ <;> (rw [cell_of_row _ _ _ _ _ _ h.b5]; rfl)
end
/-- the world behind the store of a letter in block g -/
def st3 (wx : World) (g : Nat) (f t : Int) (s : ByteArray) : World := ((wx.setCell ⟨g, 0, none⟩ (.int .i64 f)).setCell ⟨g, 1, none⟩ (.int .i64 t)).setCell ⟨g, 2, none⟩ (.string s)
theorem st3_other {wx : World} {g b : Nat} {f t : Int} {s : ByteArray} (h : b ≠ g) : (st3 wx g f t s).heap[b]? = wx.heap[b]? := by
  unfold st3
  rw [Below.heap_setCell _ _ _ _ h, Below.heap_setCell _ _ _ _ h, Below.heap_setCell _ _ _ _ h]
theorem st2_other {wx : World} {g b most : Nat} {V : Value} (h : b ≠ g) : (st2 wx g most V).heap[b]? = wx.heap[b]? := by
  unfold st2
  rw [Below.heap_setCell _ _ _ _ h, Below.heap_setCell _ _ _ _ h]
theorem st3_cells {wx : World} {g : Nat} {u0 u1 u2 : Value} {f t : Int} {s : ByteArray} {ty : TypeId} (h : wx.heap[g]? = some (.cells #[u0, u1, u2] ty (0, 0))) :
    (st3 wx g f t s).cell? ⟨g, 0, none⟩ = some (.int .i64 f) ∧ (st3 wx g f t s).cell? ⟨g, 1, none⟩ = some (.int .i64 t) ∧ (st3 wx g f t s).cell? ⟨g, 2, none⟩ = some (.string s) := by
  have h2 := heap_setCell_same _ _ 2 _ _ (.string s) (heap_setCell_same _ _ 1 _ _ (.int .i64 t) (heap_setCell_same _ _ 0 _ _ (.int .i64 f) h))
  exact ⟨by unfold st3; rw [cell_of_row _ _ _ _ _ _ h2]; rfl, by unfold st3; rw [cell_of_row _ _ _ _ _ _ h2]; rfl, by unfold st3; rw [cell_of_row _ _ _ _ _ _ h2]; rfl⟩
theorem Below.st3 {B g : Nat} {w wx : World} {f t : Int} {s : ByteArray} (h : Below B w wx) (hg : B ≤ g) : Below B w (Go.Proofs.Ytflaghnbbfdamaa.st3 wx g f t s) :=
  ((h.setCell (p := ⟨g, 0, none⟩) hg _).setCell (p := ⟨g, 1, none⟩) hg _).setCell (p := ⟨g, 2, none⟩) hg _
theorem st3_size {wx : World} {g : Nat} {f t : Int} {s : ByteArray} : (st3 wx g f t s).heap.size = wx.heap.size := by unfold st3; simp [World.setCell]
theorem Rd.ne {w : World} {B c g : Nat} {a : Option Addr} {L : List Lt} (h : Rd w (fun x => B ≤ x) a c L) (hg : g < B) : ∀ b, a = some ⟨b, 0, none⟩ → b ≠ g := fun b e => by
  rcases h.2.2 with ⟨h1, _⟩ | ⟨b', h1, h2, _⟩
  · rw [h1] at e; cases e
  · rw [h1] at e; injection e with e; injection e with e; subst e; have h2 : B ≤ b' := h2; omega
def TPost (w : World) (N : Nat → Prop) (most : Nat) (L : List Lt) (f t : Int) (s : ByteArray) (ok : Bool) (e : Ending) (w' : World) : Prop :=
  ∃ v, e = .returned (.tuple #[v, .agg #[.int .i64 f, .int .i64 t, .string s], .bool ok]) ∧ Rv w' (NN N w w') v most L ∧ Below w.heap.size w w'
/-- both orders of the two stores -/
theorem tdone {w wx : World} {M : Nat → Prop} {most c : Nat} {a : Option Addr} {L : List Lt} {f t : Int} {s : ByteArray} {u0 u1 u2 : Value} (hb : Below w.heap.size w wx) (hR : Rd wx M a c L) (hn1 : ∀ b, a = some ⟨b, 0, none⟩ → b ≠ w.heap.size + 1) (hn2 : ∀ b, a = some ⟨b, 0, none⟩ → b ≠ w.heap.size + 1 + 1)
    (h4 : wx.heap[w.heap.size + 1]? = some (.cells #[.int .i64 0, .slice none 0 0] 44 (0, 0))) (h5 : wx.heap[w.heap.size + 1 + 1]? = some (.cells #[u0, u1, u2] 65 (0, 0))) {wf : World}
    (hwf : wf = st3 (st2 wx (w.heap.size + 1) most (.slice a L.length c)) (w.heap.size + 1 + 1) f t s ∨ wf = st2 (st3 wx (w.heap.size + 1 + 1) f t s) (w.heap.size + 1) most (.slice a L.length c)) :
    Rd wf M a c L ∧ Below w.heap.size w wf ∧ wf.cell? ⟨w.heap.size + 1, 0, none⟩ = some (.int .i64 (most : Nat)) ∧ wf.cell? ⟨w.heap.size + 1, 1, none⟩ = some (.slice a L.length c) ∧
      wf.cell? ⟨w.heap.size + 1 + 1, 0, none⟩ = some (.int .i64 f) ∧ wf.cell? ⟨w.heap.size + 1 + 1, 1, none⟩ = some (.int .i64 t) ∧ wf.cell? ⟨w.heap.size + 1 + 1, 2, none⟩ = some (.string s) := by
  rcases hwf with rfl | rfl
  · have hbf := (Below.st2 (most := most) (V := .slice a L.length c) hb (show w.heap.size ≤ w.heap.size + 1 by omega))
    have hbf2 := Below.st3 (f := f) (t := t) (s := s) hbf (show w.heap.size ≤ w.heap.size + 1 + 1 by omega)
    obtain ⟨c0, c1⟩ := st2_cells (most := most) (V := .slice a L.length c) h4
    obtain ⟨d0, d1, d2⟩ := st3_cells (f := f) (t := t) (s := s) ((st2_other (wx := wx) (g := w.heap.size + 1) (b := w.heap.size + 1 + 1) (most := most) (V := .slice a L.length c) (Nat.ne_of_gt (Nat.lt_succ_self _))).trans h5)
    have he : (st3 (st2 wx (w.heap.size + 1) most (.slice a L.length c)) (w.heap.size + 1 + 1) f t s).heap[w.heap.size + 1]? = (st2 wx (w.heap.size + 1) most (.slice a L.length c)).heap[w.heap.size + 1]? := st3_other (Nat.ne_of_lt (Nat.lt_succ_self _))
    refine ⟨?_, hbf2, (World.cell?_of_block (a := ⟨w.heap.size + 1, 0, none⟩) he).trans c0, (World.cell?_of_block (a := ⟨w.heap.size + 1, 1, none⟩) he).trans c1, d0, d1, d2⟩
    exact ((((hR.st2 hn1).store (p := ⟨w.heap.size + 1 + 1, 0, none⟩) hn2 _).store (p := ⟨w.heap.size + 1 + 1, 1, none⟩) hn2 _).store (p := ⟨w.heap.size + 1 + 1, 2, none⟩) hn2 _)
  · have hbf := (Below.st3 (f := f) (t := t) (s := s) hb (show w.heap.size ≤ w.heap.size + 1 + 1 by omega))
    have hbf2 := Below.st2 (most := most) (V := .slice a L.length c) hbf (show w.heap.size ≤ w.heap.size + 1 by omega)
    obtain ⟨d0, d1, d2⟩ := st3_cells (f := f) (t := t) (s := s) h5
    obtain ⟨c0, c1⟩ := st2_cells (most := most) (V := .slice a L.length c) ((st3_other (wx := wx) (g := w.heap.size + 1 + 1) (b := w.heap.size + 1) (f := f) (t := t) (s := s) (Nat.ne_of_lt (Nat.lt_succ_self _))).trans h4)
    have he : (st2 (st3 wx (w.heap.size + 1 + 1) f t s) (w.heap.size + 1) most (.slice a L.length c)).heap[w.heap.size + 1 + 1]? = (st3 wx (w.heap.size + 1 + 1) f t s).heap[w.heap.size + 1 + 1]? := st2_other (Nat.ne_of_gt (Nat.lt_succ_self _))
    refine ⟨?_, hbf2, c0, c1, (World.cell?_of_block (a := ⟨w.heap.size + 1 + 1, 0, none⟩) he).trans d0, (World.cell?_of_block (a := ⟨w.heap.size + 1 + 1, 1, none⟩) he).trans d1, (World.cell?_of_block (a := ⟨w.heap.size + 1 + 1, 2, none⟩) he).trans d2⟩
    exact ((((hR.store (p := ⟨w.heap.size + 1 + 1, 0, none⟩) hn2 _).store (p := ⟨w.heap.size + 1 + 1, 1, none⟩) hn2 _).store (p := ⟨w.heap.size + 1 + 1, 2, none⟩) hn2 _).st2 hn1)

set_option maxRecDepth 100000 in
set_option maxHeartbeats 6400000 in
/-- Take of the document, where letters are -/
theorem rtake_ok {w : World} {N : Nat → Prop} {a : Option Addr} {c most : Nat} {L : List Lt} (h : Rd w N a c L) (k : Int) {f t : Int} {s : ByteArray} (hL : L.length ≤ 1000000) (hget : L[plc k L.length]? = some (f, t, s)) :
    Calls Try.prog 22 #[qv most a L.length c, .int .i64 k] w (TPost w N most (L.eraseIdx (plc k L.length)) f t s true) := by
  have hne : L ≠ [] := by rintro rfl; simp at hget
  have hpl := plc_lt k (List.length_pos_iff.2 hne)
  obtain ⟨b, rfl, _, hbl⟩ := h.there hne
  have hbox := Tb.new w most (.slice (some ⟨b, 0, none⟩) L.length c)
  have HP := Lib.hid (fun W => rplace_ok W most L.length c (some ⟨b, 0, none⟩) k (List.length_pos_iff.2 hne) hL)
  have hc1 := h.1
  have hc2 := h.2.1
  have HR := Lib.hid h
  have HB := Lib.hid hbox
  have HLL := Lib.hid hL
  obtain ⟨i0, hi0, hz0, hz1, hz2⟩ := info_parts info65
  obtain ⟨x0, x1⟩ := hbox.net
  clear hbox h hL hne
  obtain ⟨p, hp⟩ : ∃ p, p = plc k L.length := ⟨_, rfl⟩
  rw [← hp] at hget hpl ⊢
  rw [← hp] at HP
  clear hp
  unfold qv at HP ⊢
  unfold maxLen at hc2
  go_enter Try.func22, Try.ntmps22
  go_wp2_with fail
  generalize ((w.alloc (.cells #[.int .i64 (most : Nat), .slice (some ⟨b, 0, none⟩) L.length c] 44)).alloc (.cells #[.int .i64 0, .slice none 0 0] 44)).alloc (.cells #[.int .i64 0, .int .i64 0, .string ⟨#[]⟩] 65) = w1 at *
  refine (HP.out _).mono ?_
  rintro e w2 ⟨rfl, hb2⟩
  have hB2 := HB.out.below hb2 (by have := HB.out.lt; omega)
  have hR2 := HR.out.below hB2.bel
  obtain ⟨b', hb', _, _, z0, z1, z2⟩ := hR2.get hget
  injection hb' with hb'
  injection hb' with hb'
  subst hb'
  obtain ⟨v0, v1⟩ := hB2.net
  have hp1 : (p : Int) < (L.length : Int) := by omega
  have hp0 : (0 : Int) ≤ (p : Int) := by omega
  have hb3 : Below w2.heap.size w2 (w2.alloc (.cells #[.int .i64 f, .int .i64 t, .string s] 65)) := (Below.refl _ _).alloc (Nat.le_refl _) _
  have hh3 : (w2.alloc (.cells #[.int .i64 f, .int .i64 t, .string s] 65)).heap[w2.heap.size]? = some (.cells #[.int .i64 f, .int .i64 t, .string s] 65 (0, 0)) := heap_alloc_new w2 _
  have hB3 := hB2.below hb3 (by have := hB2.lt; omega)
  have hR3 := hR2.below hb3
  have HB3 := Lib.hid hB3
  have HR3 := Lib.hid hR3
  have HH3 := Lib.hid hh3
  have hs3 : w2.heap.size < (w2.alloc (.cells #[.int .i64 f, .int .i64 t, .string s] 65)).heap.size := by simp
  have hLL := HLL.out
  have HGET := Lib.hid hget
  have hlt6 := hB2.lt
  clear hB2 hR2 hb3 hh3 hB3 hR3 hb2 HB HP hget
  go_upto_region 6 with fail
  generalize w2.alloc (.cells #[.int .i64 f, .int .i64 t, .string s] 65) = w3 at *
  obtain ⟨n0, n1⟩ := HB3.out.net
  have hlz : (lets (L.take p)).length = p * 3 := by rw [lets_length, List.length_take]; congr 1; omega
  have hnews : ∀ j u, (lets (L.take p))[j]? = some u → w3.cell? ((⟨b, 0, none⟩ : Addr).add j) = some u := fun j u hu => HR3.out.cells 0 j u (by
    rw [lets_take, List.getElem?_take] at hu
    split at hu
    · rw [Nat.zero_add]; exact hu
    · cases hu)
  have HLZ := Lib.hid hlz
  have HNW := Lib.hid hnews
  have hpc : p ≤ c := by omega
  clear hlz hnews z0 z1 z2 v0 v1
  go_wp2_with (at_builtin; refine wpList_append_own_at _ rfl _ _ 42 rfl w3.heap.size 65 i0 _ 3 32 Try.underlying42 hi0 hz0 hz1 hz2 rfl (by omega) _ 0 [] rfl (own_nil _ _ _ _) ⟨b, 0, none⟩ p c (lets (L.take p)) rfl HLZ.out HNW.out (lets_one _) (by unfold maxLen; omega) (by omega) (by omega) ?_)
  intro v' w5 hown hgrow _ _
  have hb5 := own_below (own_nil _ w3.heap.size 65 3) hgrow (Nat.le_refl _)
  have hB5 := HB3.out.below hb5 (by have := HB3.out.lt; omega)
  have hR5 := HR3.out.below hb5
  have hh5 := (hb5.block w2.heap.size hs3).trans HH3.out
  obtain ⟨m0, m1⟩ := hB5.net
  have m2 := frozen_of_row _ _ 1 _ _ hB5.b2
  have HB5 := Lib.hid hB5
  have HR5 := Lib.hid hR5
  have HH5 := Lib.hid hh5
  have HO5 := Lib.hid hown
  have hs5 : w3.heap.size ≤ w5.heap.size := hb5.size
  have hpq : p + 1 ≤ L.length := by omega
  have hpc2 : p + 1 ≤ c := by omega
  clear hown hgrow hb5 hB5 hR5 hh5 n0 n1 HLZ HNW
  obtain ⟨A, hA, hsrc⟩ : ∃ A : Addr, (if c = p + 1 then some (⟨b, 0, none⟩ : Addr) else some ⟨b, (p + 1) * 3, none⟩) = some A ∧ Hid (∀ t u, (lets (L.drop (p + 1)))[t]? = some u → w5.cell? (A.add t) = some u) := by
    by_cases h : c = p + 1
    · refine ⟨⟨b, 0, none⟩, by simp [h], fun t u hu => ?_⟩
      have h0 : L.drop (p + 1) = [] := List.drop_eq_nil_of_le (by omega)
      rw [h0] at hu
      simp [lets] at hu
    · refine ⟨⟨b, (p + 1) * 3, none⟩, by simp [h], fun t u hu => ?_⟩
      refine HR5.out.cells ((p + 1) * 3) t u ?_
      rw [lets_drop, List.getElem?_drop] at hu
      exact hu
  have hlz : (lets (L.drop (p + 1))).length = (L.length - (p + 1)) * 3 := by rw [lets_length, List.length_drop]
  have HLZ := Lib.hid hlz
  clear hlz
  go_wp2_with (at_builtin; refine wpList_append_own_at _ rfl _ _ 42 rfl w3.heap.size 65 i0 _ 3 32 Try.underlying42 hi0 hz0 hz1 hz2 rfl (by omega) _ p (lets (L.take p)) rfl HO5.out A (L.length - (p + 1)) (c - (p + 1)) (lets (L.drop (p + 1))) rfl HLZ.out hsrc.out (lets_one _) (by unfold maxLen; omega) (by omega) (by omega) ?_)
  intro v6 w6 hown hgrow _ _
  have hb6 := own_below HO5.out hgrow hs5
  have hB6 := HB5.out.below hb6 (by have := HB3.out.lt; omega)
  have hh6 := (hb6.block w2.heap.size hs3).trans HH5.out
  have hlen : p + (L.length - (p + 1)) = (L.eraseIdx p).length := by rw [List.length_eraseIdx_of_lt hpl]; omega
  rw [← lets_append, ← List.eraseIdx_eq_take_drop_succ, hlen] at hown
  obtain ⟨a', c', rfl, hR', _⟩ := Rd.own hown rfl
  have hne7 := hR'.ne (g := w.heap.size) (by have := HB3.out.lt; omega)
  have hR7 := hR'.store (p := ⟨w.heap.size, 1, none⟩) hne7 (.slice a' (L.eraseIdx p).length c')
  have hbel7 := hB6.bel.setCell (p := ⟨w.heap.size, 1, none⟩) (Nat.le_refl _) (.slice a' (L.eraseIdx p).length c')
  have ho : ∀ x, x ≠ w.heap.size → (w6.setCell ⟨w.heap.size, 1, none⟩ (.slice a' (L.eraseIdx p).length c')).heap[x]? = w6.heap[x]? := fun x hx => Below.heap_setCell _ _ _ _ hx
  have h74 := (ho (w.heap.size + 1) (by omega)).trans hB6.b4
  have h75 := (ho (w.heap.size + 1 + 1) (by omega)).trans hB6.b5
  have h78 := (ho w2.heap.size (by omega)).trans hh6
  have h72 := heap_setCell_same _ _ 1 _ _ (.slice a' (L.eraseIdx p).length c') hB6.b2
  obtain ⟨k0, k1⟩ := hB6.net
  have k2 := frozen_of_row _ _ 1 _ _ hB6.b2
  clear hgrow hb6 hB6 hh6 hown hR' hne7 ho m0 m1 m2 HO5 HH5 HR5 HB5 hsrc hA HLZ
  obtain ⟨nn, hV⟩ : ∃ nn, nn = (L.eraseIdx p).length := ⟨_, rfl⟩
  have HV := Lib.hid hV
  rw [← hV] at hR7 hbel7 h74 h75 h78 h72
  have HR7 := Lib.hid hR7
  have HBEL7 := Lib.hid hbel7
  have H74 := Lib.hid h74
  have H75 := Lib.hid h75
  have H78 := Lib.hid h78
  have H72 := Lib.hid h72
  rw [← hV]
  clear hV hR7 hbel7 h74 h75 h78 h72
  go_wp2_with fail
  generalize w6.setCell ⟨w.heap.size, 1, none⟩ (.slice a' nn c') = w7 at *
  have n0 : w7.cell? ⟨w.heap.size, 0, none⟩ = some (.int .i64 (most : Nat)) := by rw [cell_of_row _ _ _ _ _ _ H72.out]; rfl
  have n1 : w7.cell? ⟨w.heap.size, 1, none⟩ = some (.slice a' nn c') := by rw [cell_of_row _ _ _ _ _ _ H72.out]; rfl
  have y0 : w7.cell? ⟨w2.heap.size, 0, none⟩ = some (.int .i64 f) := by rw [cell_of_row _ _ _ _ _ _ H78.out]; rfl
  have y1 : w7.cell? ⟨w2.heap.size, 1, none⟩ = some (.int .i64 t) := by rw [cell_of_row _ _ _ _ _ _ H78.out]; rfl
  have y2 : w7.cell? ⟨w2.heap.size, 2, none⟩ = some (.string s) := by rw [cell_of_row _ _ _ _ _ _ H78.out]; rfl
  have z0 : w7.cell? ⟨w.heap.size + 1, 0, none⟩ = some (.int .i64 0) := by rw [cell_of_row _ _ _ _ _ _ H74.out]; rfl
  have z1 : w7.cell? ⟨w.heap.size + 1, 1, none⟩ = some (.slice none 0 0) := by rw [cell_of_row _ _ _ _ _ _ H74.out]; rfl
  have u0 : w7.cell? ⟨w.heap.size + 1 + 1, 0, none⟩ = some (.int .i64 0) := by rw [cell_of_row _ _ _ _ _ _ H75.out]; rfl
  have u1 : w7.cell? ⟨w.heap.size + 1 + 1, 1, none⟩ = some (.int .i64 0) := by rw [cell_of_row _ _ _ _ _ _ H75.out]; rfl
  have u2 : w7.cell? ⟨w.heap.size + 1 + 1, 2, none⟩ = some (.string ⟨#[]⟩) := by rw [cell_of_row _ _ _ _ _ _ H75.out]; rfl
  have q0 := frozen_of_row _ _ 0 _ _ H74.out
  have q1 := frozen_of_row _ _ 1 _ _ H74.out
  have r0 := frozen_of_row _ _ 0 _ _ H75.out
  have r1 := frozen_of_row _ _ 1 _ _ H75.out
  have r2 := frozen_of_row _ _ 2 _ _ H75.out
  have e1 : ¬ w2.heap.size = w.heap.size + 1 := by omega
  have e2 : ¬ w2.heap.size = w.heap.size + 1 + 1 := by omega
  go_region
  all_goals
    go_wp2_with fail
    have hR8 := HR7.out
    obtain ⟨d1, d2, d3, d4, d5, d6, d7⟩ := tdone (most := most) HBEL7.out hR8 (hR8.ne (by omega)) (hR8.ne (by omega)) H74.out H75.out (f := f) (t := t) (s := s) (.inl rfl)
    have d0 := d1.fresh (w := w) (N := N) (by omega)
    rw [← HV.out] at d0 d2 d3 d4 d5 d6 d7
    refine bodyPost_ret (v := .tuple #[qv most a' nn c', .agg #[.int .i64 f, .int .i64 t, .string s], .bool true]) ?_ rfl ⟨_, rfl, ⟨a', c', by rw [HV.out], d0.move (Nat.le_refl _) (fun _ _ _ => rfl)⟩, d2.drew⟩
    unfold st2 st3 at d3 d4 d5 d6 d7
    unfold qv
    simp [results, Try.results22, go_sem, d3, d4, d5, d6, d7]
set_option maxRecDepth 100000 in
set_option maxHeartbeats 3200000 in
/-- Take of the document, where nothing is -/
theorem rtake_none {w : World} {N : Nat → Prop} {a : Option Addr} {c most : Nat} (h : Rd w N a c []) (k : Int) :
    Calls Try.prog 22 #[qv most a 0 c, .int .i64 k] w (TPost w N most [] 0 0 ⟨#[]⟩ false) := by
  have hbox := Tb.new w most (.slice a 0 c)
  have HP := Lib.hid (fun W => rplace_zero W most c a k)
  have HR := Lib.hid h
  have HB := Lib.hid hbox
  obtain ⟨x0, x1⟩ := hbox.net
  clear hbox h
  unfold qv at HP ⊢
  go_enter Try.func22, Try.ntmps22
  go_wp2_with fail
  generalize ((w.alloc (.cells #[.int .i64 (most : Nat), .slice a 0 c] 44)).alloc (.cells #[.int .i64 0, .slice none 0 0] 44)).alloc (.cells #[.int .i64 0, .int .i64 0, .string ⟨#[]⟩] 65) = w1 at *
  refine (HP.out _).mono ?_
  rintro e w2 ⟨rfl, hb2⟩
  have hB2 := HB.out.below hb2 (by have := HB.out.lt; omega)
  have HB2 := Lib.hid hB2
  obtain ⟨v0, v1⟩ := hB2.net
  obtain ⟨z0, z1, q0, q1⟩ := hB2.res
  obtain ⟨u0, u1, u2, r0, r1, r2⟩ := hB2.let_
  clear hb2 hB2
  go_wp2_with fail
  have hR2 := HR.out.below HB2.out.bel
  have hold : ∀ g, w.heap.size ≤ g → ∀ b, a = some ⟨b, 0, none⟩ → b ≠ g := fun g hg b e => by
    rcases HR.out.2.2 with ⟨h1, _⟩ | ⟨b', h1, _, h2, _⟩
    · rw [h1] at e; cases e
    · rw [h1] at e; injection e with e; injection e with e; subst e; omega
  obtain ⟨d1, d2, d3, d4, d5, d6, d7⟩ := tdone (most := most) HB2.out.bel hR2 (hold _ (by omega)) (hold _ (by omega)) HB2.out.b4 HB2.out.b5 (f := 0) (t := 0) (s := ⟨#[]⟩) (.inl rfl)
  refine bodyPost_ret (v := .tuple #[qv most a 0 c, .agg #[.int .i64 0, .int .i64 0, .string ⟨#[]⟩], .bool false]) ?_ rfl ⟨_, rfl, ⟨a, c, rfl, d1.more fun _ hx => .inl hx⟩, d2⟩
  unfold st2 st3 at d3 d4 d5 d6 d7
  unfold qv
  simp only [List.length_nil] at d3 d4 d5 d6 d7
  simp [results, Try.results22, go_sem, d3, d4, d5, d6, d7]
end Go.Proofs.Ytflaghnbbfdamaa
