/-
  does of the laws of package net: a call on both sides: they do not part. Put, Twice, Cut, Between, and no call.
-/
import Derived.Test.YtflaghnbbfdamaaNetV
namespace Go.Proofs.Ytflaghnbbfdamaa
open Go.RowKit

/-- what does holds: three boxes -/
structure Dbx (w wx : World) (most : Nat) (V : Value) (kind x y : Int) (s : ByteArray) : Prop where
  b4 : wx.heap[w.heap.size]? = some (.cells #[.int .i64 (most : Nat), V] 44 (0, 0))
  b5 : wx.heap[w.heap.size + 1]? = some (.cells #[.int .i64 kind, .int .i64 x, .int .i64 y, .string s] 48 (0, 0))
  b6 : wx.heap[w.heap.size + 1 + 1]? = some (.cells #[.int .i64 0, .slice none 0 0] 44 (0, 0))
section
variable {w wx wy : World} {most : Nat} {V : Value} {kind x y : Int} {s : ByteArray}
theorem Dbx.lt (h : Dbx w wx most V kind x y s) : w.heap.size + 1 + 1 < wx.heap.size := by
  rcases Nat.lt_or_ge (w.heap.size + 1 + 1) wx.heap.size with hlt | hge
  · exact hlt
  · have := h.b6
    rw [Array.getElem?_eq_none hge] at this
    cases this
theorem Dbx.below (h : Dbx w wx most V kind x y s) (hb : Below wx.heap.size wx wy) : Dbx w wy most V kind x y s :=
  ⟨(hb.block _ (by have := h.lt; omega)).trans h.b4, (hb.block _ (by have := h.lt; omega)).trans h.b5, (hb.block _ h.lt).trans h.b6⟩
theorem Dbx.kept {M : Nat → Prop} (h : Dbx w wx most V kind x y s) (hb : Kept M wx wy) (hM : ∀ z, w.heap.size ≤ z → z < w.heap.size + 3 → M z) : Dbx w wy most V kind x y s :=
  ⟨(hb.block _ (hM _ (by omega) (by omega))).trans h.b4, (hb.block _ (hM _ (by omega) (by omega))).trans h.b5, (hb.block _ (hM _ (by omega) (by omega))).trans h.b6⟩
theorem cells2_of {w : World} {g : Nat} {x y : Value} {t : TypeId} (h : w.heap[g]? = some (.cells #[x, y] t (0, 0))) : w.cell? ⟨g, 0, none⟩ = some x ∧ w.cell? ⟨g, 1, none⟩ = some y :=
  ⟨by rw [cell_of_row _ _ _ _ _ _ h]; rfl, by rw [cell_of_row _ _ _ _ _ _ h]; rfl⟩
theorem Dbx.q (h : Dbx w wx most V kind x y s) : wx.cell? ⟨w.heap.size, 0, none⟩ = some (.int .i64 (most : Nat)) ∧ wx.cell? ⟨w.heap.size, 1, none⟩ = some V := cells2_of h.b4
theorem Dbx.res (h : Dbx w wx most V kind x y s) : wx.cell? ⟨w.heap.size + 1 + 1, 0, none⟩ = some (.int .i64 0) ∧ wx.cell? ⟨w.heap.size + 1 + 1, 1, none⟩ = some (.slice none 0 0) := cells2_of h.b6
theorem Dbx.resf (h : Dbx w wx most V kind x y s) (j : Nat) : wx.frozen? ⟨w.heap.size + 1 + 1, j, none⟩ = false := frozen_of_row _ _ _ _ _ h.b6
theorem Dbx.op (h : Dbx w wx most V kind x y s) : wx.cell? ⟨w.heap.size + 1, 0, none⟩ = some (.int .i64 kind) ∧ wx.cell? ⟨w.heap.size + 1, 1, none⟩ = some (.int .i64 x) ∧ wx.cell? ⟨w.heap.size + 1, 2, none⟩ = some (.int .i64 y) ∧ wx.cell? ⟨w.heap.size + 1, 3, none⟩ = some (.string s) := by
  refine ⟨?_, ?_, ?_, ?_⟩ <;> (rw [cell_of_row _ _ _ _ _ _ h.b5]; rfl)
end
theorem heap3 (w : World) (p q r : Obj) : (((w.alloc p).alloc q).alloc r).heap[w.heap.size]? = (w.alloc p).heap[w.heap.size]? ∧ (((w.alloc p).alloc q).alloc r).heap[w.heap.size + 1]? = ((w.alloc p).alloc q).heap[w.heap.size + 1]? := by
  constructor
  · rw [Below.heap_alloc _ _ _ (by simp; omega), Below.heap_alloc _ _ _ (by simp)]
  · rw [Below.heap_alloc _ _ _ (by simp)]
theorem Dbx.new (w : World) (most : Nat) (V : Value) (kind x y : Int) (s : ByteArray) :
    Dbx w (((w.alloc (.cells #[.int .i64 (most : Nat), V] 44)).alloc (.cells #[.int .i64 kind, .int .i64 x, .int .i64 y, .string s] 48)).alloc (.cells #[.int .i64 0, .slice none 0 0] 44)) most V kind x y s := by
  obtain ⟨h1, h2⟩ := heap3 w (.cells #[.int .i64 (most : Nat), V] 44) (.cells #[.int .i64 kind, .int .i64 x, .int .i64 y, .string s] 48) (.cells #[.int .i64 0, .slice none 0 0] 44)
  refine ⟨h1.trans (heap_alloc_new w _), h2.trans (heap_alloc2_new w _ _), ?_⟩
  have := heap_alloc_new ((w.alloc (.cells #[.int .i64 (most : Nat), V] 44)).alloc (.cells #[.int .i64 kind, .int .i64 x, .int .i64 y, .string s] 48)) (.cells #[.int .i64 0, .slice none 0 0] 44)
  simpa using this
theorem below3 (w : World) (p q r : Obj) : Below w.heap.size w (((w.alloc p).alloc q).alloc r) := (((Below.refl _ _).alloc (Nat.le_refl _) _).alloc (by simp) _).alloc (by simp; omega) _

/-- what does hands back -/
def DidPost (w : World) (N : Nat → Prop) (g most k : Nat) (R : List Lt → Prop) (e : Ending) (w' : World) : Prop :=
  ∃ v N' n' L', e = .returned (.tuple #[v, .bool true]) ∧ (∀ z, N z → N' z) ∧ Net w' g N' most n' L' ∧ Rv w' N' v most L' ∧ Kept N w w' ∧ n' ≤ k ∧ R L'

/-- the result is stored -/
theorem stored_did {w wx : World} {N M : Nat → Prop} {g most n c' : Nat} {a' : Option Addr} {L : List Lt} (hN : ∀ z, N z → z < w.heap.size) (hB : M (w.heap.size + 1 + 1)) (hD : Net wx g M most n L) (hR : Rd wx M a' c' L)
    (ha : ∀ b, a' = some ⟨b, 0, none⟩ → b ≠ w.heap.size + 1 + 1) (hK : Kept N w wx) :
    Net (st2 wx (w.heap.size + 1 + 1) most (.slice a' L.length c')) g M most n L ∧ Rv (st2 wx (w.heap.size + 1 + 1) most (.slice a' L.length c')) M (qv most a' L.length c') most L ∧ Kept N w (st2 wx (w.heap.size + 1 + 1) most (.slice a' L.length c')) := by
  have hn : ¬ N (w.heap.size + 1 + 1) := fun h => by have := hN _ h; omega
  exact ⟨(hD.store (p := ⟨w.heap.size + 1 + 1, 0, none⟩) hB _).store (p := ⟨w.heap.size + 1 + 1, 1, none⟩) hB _, ⟨a', c', rfl, hR.st2 ha⟩,
    (hK.setCell (p := ⟨w.heap.size + 1 + 1, 0, none⟩) hn _).setCell (p := ⟨w.heap.size + 1 + 1, 1, none⟩) hn _⟩
theorem Net.nn {w w1 w2 w3 : World} {g most n : Nat} {N : Nat → Prop} {L : List Lt} (h : Net w3 g (NN (NN (NN N w w1) w1 w2) w2 w3) most n L) : Net w3 g (NN N w w3) most n L := by
  refine h.less fun b hb => ?_
  rcases hb with hb | ⟨h1, h2⟩
  · exact .inl (.inl (.inl hb))
  · rcases Nat.lt_or_ge b w1.heap.size with h3 | h3
    · exact .inl (.inl (.inr ⟨h1, h3⟩))
    · rcases Nat.lt_or_ge b w2.heap.size with h4 | h4
      · exact .inl (.inr ⟨h3, h4⟩)
      · exact .inr ⟨h4, h2⟩
theorem NN.nn {w w1 w2 w3 : World} {N : Nat → Prop} (h0 : w.heap.size ≤ w1.heap.size) (h2 : w2.heap.size ≤ w3.heap.size) {z : Nat} (h : NN N w1 w2 z) : NN N w w3 z := by
  rcases h with h | ⟨h, h'⟩
  · exact .inl h
  · exact .inr ⟨by omega, by omega⟩
theorem NN.ne {w w1 w2 : World} {N : Nat → Prop} (hN : ∀ z, N z → z < w.heap.size) (h0 : w.heap.size + 3 ≤ w1.heap.size) {z : Nat} (h : NN N w1 w2 z) : z ≠ w.heap.size + 1 + 1 := by
  rcases h with h | ⟨h, h'⟩
  · have := hN z h; omega
  · omega

set_option maxRecDepth 100000 in
set_option maxHeartbeats 6400000 in
theorem does_other {w : World} {N : Nat → Prop} {g most n c : Nat} {a : Option Addr} {L : List Lt} (hD : Net w g N most n L) (hR : Rd w N a c L) (kind : Int) (hkind : kind ≠ 1 ∧ kind ≠ 2 ∧ kind ≠ 3 ∧ kind ≠ 4 ∧ kind ≠ 5) (x y : Int) (s : ByteArray) :
    Calls Try.prog 14 #[.pointer (some ⟨g, 0, none⟩), qv most a L.length c, .agg #[.int .i64 kind, .int .i64 x, .int .i64 y, .string s]] w (DidPost w N g most (n + L.length + 1) fun L' => L'.length ≤ L.length + 1) := by
  have hbox := Dbx.new w most (.slice a L.length c) kind x y s
  obtain ⟨h1, h2, h3, h4, h5⟩ := hkind
  have k1 : (kind == 1) = false := by simpa using h1
  have k2 : (kind == 2) = false := by simpa using h2
  have k3 : (kind == 3) = false := by simpa using h3
  have k4 : (kind == 4) = false := by simpa using h4
  have k5 : (kind == 5) = false := by simpa using h5
  have HR := Lib.hid hR
  have HD := Lib.hid hD
  clear hR hD h1 h2 h3 h4 h5
  unfold qv
  go_enter Try.func14, Try.ntmps14
  go_wp2_with fail
  have hb := below3 w (.cells #[.int .i64 (most : Nat), .slice a L.length c] 44) (.cells #[.int .i64 kind, .int .i64 x, .int .i64 y, .string s] 48) (.cells #[.int .i64 (most : Nat), .slice a L.length c] 44)
  have hh := heap_alloc_new ((w.alloc (.cells #[.int .i64 (most : Nat), .slice a L.length c] 44)).alloc (.cells #[.int .i64 kind, .int .i64 x, .int .i64 y, .string s] 48)) (.cells #[.int .i64 (most : Nat), .slice a L.length c] 44)
  have hs : ((w.alloc (.cells #[.int .i64 (most : Nat), .slice a L.length c] 44)).alloc (.cells #[.int .i64 kind, .int .i64 x, .int .i64 y, .string s] 48)).heap.size = w.heap.size + 1 + 1 := by simp
  rw [hs] at hh
  obtain ⟨c0, c1⟩ := cells2_of hh
  generalize ((w.alloc (.cells #[.int .i64 (most : Nat), .slice a L.length c] 44)).alloc (.cells #[.int .i64 kind, .int .i64 x, .int .i64 y, .string s] 48)).alloc (.cells #[.int .i64 (most : Nat), .slice a L.length c] 44) = wf at *
  refine bodyPost_ret (v := .tuple #[qv most a L.length c, .bool true]) ?_ rfl ⟨_, NN N w wf, n, L, rfl, fun z hz => .inl hz, HD.out.below hb, ⟨a, c, rfl, (HR.out.below hb).more fun z hz => .inl hz⟩, Kept.of_below hb HD.out.lt, by omega, by omega⟩
  unfold qv
  simp [results, Try.results14, go_sem, c0, c1]
end Go.Proofs.Ytflaghnbbfdamaa
