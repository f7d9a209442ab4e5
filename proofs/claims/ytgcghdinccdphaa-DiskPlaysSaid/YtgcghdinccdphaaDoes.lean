/-
  does of the laws of package disk: a call on both sides: they do not part.
-/
import Derived.Test.YtgcghdinccdphaaPairs
namespace Go.Proofs.Ytgcghdinccdphaa
open Go.RowKit

/-- what does holds: three boxes -/
structure Dbx (w wx : World) (r a b c d : Nat) (kind file x y : Int) (s : ByteArray) (kv : Value) : Prop where
  b4 : wx.heap[w.heap.size]? = some (.cells #[.int .i64 (r : Nat), .slice (some ⟨a, 0, none⟩) 256 c, .slice (some ⟨b, 0, none⟩) 256 d] 45 (0, 0))
  b5 : wx.heap[w.heap.size + 1]? = some (.cells #[.int .i64 kind, .int .i64 file, .int .i64 x, .int .i64 y, .string s, kv] 49 (0, 0))
  b6 : wx.heap[w.heap.size + 1 + 1]? = some (.cells #[.int .i64 0, .slice none 0 0, .slice none 0 0] 45 (0, 0))
section
variable {w wx wy : World} {r a b c d : Nat} {kind file x y : Int} {s : ByteArray} {kv : Value}
theorem Dbx.lt (h : Dbx w wx r a b c d kind file x y s kv) : w.heap.size + 1 + 1 < wx.heap.size := by
  rcases Nat.lt_or_ge (w.heap.size + 1 + 1) wx.heap.size with hlt | hge
  · exact hlt
  · have := h.b6
    rw [Array.getElem?_eq_none hge] at this
    cases this
theorem Dbx.below (h : Dbx w wx r a b c d kind file x y s kv) (hb : Below wx.heap.size wx wy) : Dbx w wy r a b c d kind file x y s kv :=
  ⟨(hb.block _ (by have := h.lt; omega)).trans h.b4, (hb.block _ (by have := h.lt; omega)).trans h.b5, (hb.block _ h.lt).trans h.b6⟩
theorem Dbx.kept {M : Nat → Prop} (h : Dbx w wx r a b c d kind file x y s kv) (hb : Kept M wx wy) (hM : ∀ z, w.heap.size ≤ z → z < w.heap.size + 3 → M z) : Dbx w wy r a b c d kind file x y s kv :=
  ⟨(hb.block _ (hM _ (by omega) (by omega))).trans h.b4, (hb.block _ (hM _ (by omega) (by omega))).trans h.b5, (hb.block _ (hM _ (by omega) (by omega))).trans h.b6⟩
theorem Dbx.drewN (h : Dbx w wx r a b c d kind file x y s kv) (n : Nat) : Dbx w (wx.drewN n) r a b c d kind file x y s kv := ⟨h.b4, h.b5, h.b6⟩
theorem Dbx.q (h : Dbx w wx r a b c d kind file x y s kv) : wx.cell? ⟨w.heap.size, 0, none⟩ = some (.int .i64 (r : Nat)) ∧ wx.cell? ⟨w.heap.size, 1, none⟩ = some (.slice (some ⟨a, 0, none⟩) 256 c) ∧ wx.cell? ⟨w.heap.size, 2, none⟩ = some (.slice (some ⟨b, 0, none⟩) 256 d) := cells3_of h.b4
theorem Dbx.res (h : Dbx w wx r a b c d kind file x y s kv) : wx.cell? ⟨w.heap.size + 1 + 1, 0, none⟩ = some (.int .i64 0) ∧ wx.cell? ⟨w.heap.size + 1 + 1, 1, none⟩ = some (.slice none 0 0) ∧ wx.cell? ⟨w.heap.size + 1 + 1, 2, none⟩ = some (.slice none 0 0) := cells3_of h.b6
theorem Dbx.resf (h : Dbx w wx r a b c d kind file x y s kv) (j : Nat) : wx.frozen? ⟨w.heap.size + 1 + 1, j, none⟩ = false := frozen_of_row _ _ _ _ _ h.b6
theorem Dbx.op (h : Dbx w wx r a b c d kind file x y s kv) : wx.cell? ⟨w.heap.size + 1, 0, none⟩ = some (.int .i64 kind) ∧ wx.cell? ⟨w.heap.size + 1, 1, none⟩ = some (.int .i64 file) ∧ wx.cell? ⟨w.heap.size + 1, 2, none⟩ = some (.int .i64 x) ∧
    wx.cell? ⟨w.heap.size + 1, 3, none⟩ = some (.int .i64 y) ∧ wx.cell? ⟨w.heap.size + 1, 4, none⟩ = some (.string s) ∧ wx.cell? ⟨w.heap.size + 1, 5, none⟩ = some kv := by
  refine ⟨?_, ?_, ?_, ?_, ?_, ?_⟩ <;> (rw [cell_of_row _ _ _ _ _ _ h.b5]; rfl)
end
theorem Dbx.new (w : World) (r a b c d : Nat) (kind file x y : Int) (s : ByteArray) (kv : Value) :
    Dbx w (((w.alloc (.cells #[.int .i64 (r : Nat), .slice (some ⟨a, 0, none⟩) 256 c, .slice (some ⟨b, 0, none⟩) 256 d] 45)).alloc (.cells #[.int .i64 kind, .int .i64 file, .int .i64 x, .int .i64 y, .string s, kv] 49)).alloc (.cells #[.int .i64 0, .slice none 0 0, .slice none 0 0] 45)) r a b c d kind file x y s kv := by
  obtain ⟨h1, h2, h3⟩ := alloc3 w (.cells #[.int .i64 (r : Nat), .slice (some ⟨a, 0, none⟩) 256 c, .slice (some ⟨b, 0, none⟩) 256 d] 45) (.cells #[.int .i64 kind, .int .i64 file, .int .i64 x, .int .i64 y, .string s, kv] 49) (.cells #[.int .i64 0, .slice none 0 0, .slice none 0 0] 45)
  exact ⟨h1, h2, h3⟩

/-- what does hands back -/
def DidPost (w : World) (N : Nat → Prop) (g r : Nat) (e : Ending) (w' : World) : Prop :=
  ∃ v N' F' S', e = .returned (.tuple #[v, .bool true]) ∧ (∀ z, N z → N' z) ∧ Disk w' g N' r F' S' ∧ Rf w' N' v r F' S' ∧ Kept N w w'

/-- the result is stored -/
theorem stored_did {w wx : World} {N M : Nat → Prop} {g r a' b' c' d' : Nat} {F : Nat → List UInt8} {S : Nat → Nat} (hN : ∀ z, N z → z < w.heap.size) (hB : M (w.heap.size + 1 + 1)) (hD : Disk wx g M r F S) (hR : Rfd wx M a' b' c' d' F S)
    (ha : a' ≠ w.heap.size + 1 + 1) (hb : b' ≠ w.heap.size + 1 + 1) (hK : Kept N w wx) :
    Disk (stored3 wx (w.heap.size + 1 + 1) r a' b' c' d') g M r F S ∧ Rf (stored3 wx (w.heap.size + 1 + 1) r a' b' c' d') M (rval r a' b' c' d') r F S ∧ Kept N w (stored3 wx (w.heap.size + 1 + 1) r a' b' c' d') := by
  have hn : ¬ N (w.heap.size + 1 + 1) := fun h => by have := hN _ h; omega
  refine ⟨((hD.store (p := ⟨w.heap.size + 1 + 1, 0, none⟩) hB _).store (p := ⟨w.heap.size + 1 + 1, 1, none⟩) hB _).store (p := ⟨w.heap.size + 1 + 1, 2, none⟩) hB _, ⟨a', b', c', d', rfl, hR.stored ha hb⟩, ?_⟩
  exact ((hK.setCell (p := ⟨w.heap.size + 1 + 1, 0, none⟩) hn _).setCell (p := ⟨w.heap.size + 1 + 1, 1, none⟩) hn _).setCell (p := ⟨w.heap.size + 1 + 1, 2, none⟩) hn _

/-- behind the call of the disk: the cells that were read stand -/
theorem does_after {w wx wy : World} {M : Nat → Prop} {r a b c d g8 : Nat} {kind file x y : Int} {s : ByteArray} {kv u0 u1 u2 : Value} (h : Dbx w wx r a b c d kind file x y s kv) (h8 : wx.heap[g8]? = some (.cells #[u0, u1, u2] 45 (0, 0))) (hK : Kept M wx wy)
    (hM : ∀ z, w.heap.size ≤ z → z < w.heap.size + 3 → M z) (hM8 : M g8) : Dbx w wy r a b c d kind file x y s kv ∧ wy.heap[g8]? = some (.cells #[u0, u1, u2] 45 (0, 0)) :=
  ⟨h.kept hK hM, (hK.block _ hM8).trans h8⟩
theorem Disk.nn {w w1 w2 w3 : World} {g r : Nat} {N : Nat → Prop} {F : Nat → List UInt8} {S : Nat → Nat} (h : Disk w3 g (fun b => ((N b ∨ w.heap.size ≤ b ∧ b < w1.heap.size) ∨ w1.heap.size ≤ b ∧ b < w2.heap.size) ∨ w2.heap.size ≤ b ∧ b < w3.heap.size) r F S) : Disk w3 g (NN N w w3) r F S := by
  refine h.less fun b hb => ?_
  rcases hb with hb | ⟨h1, h2⟩
  · exact .inl (.inl (.inl hb))
  · rcases Nat.lt_or_ge b w1.heap.size with h3 | h3
    · exact .inl (.inl (.inr ⟨h1, h3⟩))
    · rcases Nat.lt_or_ge b w2.heap.size with h4 | h4
      · exact .inl (.inr ⟨h3, h4⟩)
      · exact .inr ⟨h4, h2⟩
theorem NN.nn {w w1 w2 w3 : World} {N : Nat → Prop} (h0 : w.heap.size ≤ w1.heap.size) (h2 : w2.heap.size ≤ w3.heap.size) {z : Nat} (h : NN N w1 w2 z) : NN N w w3 z := by
  rcases h with h | ⟨h, h'⟩
  · exact .inl h
  · exact .inr ⟨by omega, by omega⟩
theorem NN.ne {w w1 w2 : World} {N : Nat → Prop} (hN : ∀ z, N z → z < w.heap.size) (h0 : w.heap.size + 3 ≤ w1.heap.size) {z : Nat} (h : NN N w1 w2 z) : z ≠ w.heap.size + 1 + 1 := by
  rcases h with h | ⟨h, h'⟩
  · have := hN z h; omega
  · omega

set_option maxRecDepth 100000 in
set_option maxHeartbeats 6400000 in
theorem does_add {w : World} {N : Nat → Prop} {g a b c d r : Nat} {F : Nat → List UInt8} {S : Nat → Nat} (hD : Disk w g N r F S) (hR : Rfd w N a b c d F S) (file x y : Int) (s : ByteArray) (hs : s.size ≤ 9223372036854775807) {kv : Value} (kvs : ∃ a m c, kv = .slice a m c) :
    Calls Try.prog 18 #[.pointer (some ⟨g, 0, none⟩), rval r a b c d, .agg #[.int .i64 1, .int .i64 file, .int .i64 x, .int .i64 y, .string s, kv]] w (DidPost w N g r) := by
  obtain ⟨ka, km, kc, rfl⟩ := kvs
  obtain ⟨code, F', S', hr1, hd1⟩ := add_pair hD file s hs
  have hbox := Dbx.new w r a b c d 1 file x y s (.slice ka km kc)
  have hbel : Below w.heap.size w (((w.alloc (.cells #[.int .i64 (r : Nat), .slice (some ⟨a, 0, none⟩) 256 c, .slice (some ⟨b, 0, none⟩) 256 d] 45)).alloc (.cells #[.int .i64 1, .int .i64 file, .int .i64 x, .int .i64 y, .string s, .slice ka km kc] 49)).alloc (.cells #[.int .i64 0, .slice none 0 0, .slice none 0 0] 45)) :=
    (((Below.refl _ _).alloc (Nat.le_refl _) _).alloc (by simp) _).alloc (by simp; omega) _
  have HR1 := Lib.hid hr1
  have HD1 := Lib.hid hd1
  have HR := Lib.hid hR
  have HD := Lib.hid hD
  clear hr1 hd1 hR hD
  unfold rval
  go_enter Try.func18, Try.ntmps18
  go_wp2_with fail
  generalize ((w.alloc (.cells #[.int .i64 (r : Nat), .slice (some ⟨a, 0, none⟩) 256 c, .slice (some ⟨b, 0, none⟩) 256 d] 45)).alloc (.cells #[.int .i64 1, .int .i64 file, .int .i64 x, .int .i64 y, .string s, .slice ka km kc] 49)).alloc (.cells #[.int .i64 0, .slice none 0 0, .slice none 0 0] 45) = w1 at *
  refine (HR1.out w1 N a b c d (HR.out.below hbel)).mono ?_
  rintro e w2 ⟨v, rfl, hrf, hb2⟩
  obtain ⟨a', b', c', d', rfl, hR2⟩ := hrf
  unfold rval
  have hD1 := HD.out.below hbel
  have hD2 := hD1.below hb2
  have hbox2 := hbox.below hb2
  have HBEL := Lib.hid hbel
  have HB2 := Lib.hid hb2
  clear hbel hD1 hb2
  go_wp2_with fail
  have hb3 : Below w2.heap.size w2 (w2.alloc (.cells #[.int .i64 (r : Nat), .slice (some ⟨a', 0, none⟩) 256 c', .slice (some ⟨b', 0, none⟩) 256 d'] 45)) := (Below.refl _ _).alloc (Nat.le_refl _) _
  have hh8 : (w2.alloc (.cells #[.int .i64 (r : Nat), .slice (some ⟨a', 0, none⟩) 256 c', .slice (some ⟨b', 0, none⟩) 256 d'] 45)).heap[w2.heap.size]? = some (.cells #[.int .i64 (r : Nat), .slice (some ⟨a', 0, none⟩) 256 c', .slice (some ⟨b', 0, none⟩) 256 d'] 45 (0, 0)) := heap_alloc_new w2 _
  have hsz3 : (w2.alloc (.cells #[.int .i64 (r : Nat), .slice (some ⟨a', 0, none⟩) 256 c', .slice (some ⟨b', 0, none⟩) 256 d'] 45)).heap.size = w2.heap.size + 1 := by simp
  generalize w2.alloc (.cells #[.int .i64 (r : Nat), .slice (some ⟨a', 0, none⟩) 256 c', .slice (some ⟨b', 0, none⟩) 256 d'] 45) = w3 at *
  have hD3 := hD2.below hb3
  have hbox3 := hbox2.below hb3
  have hR3 := hR2.below hb3
  have hb03 : Below w.heap.size w w3 := HBEL.out.trans ((HB2.out.mono HBEL.out.size).trans (hb3.mono (Nat.le_trans HBEL.out.size HB2.out.size)))
  have HK3 : Hid (Kept N w w3) := Kept.of_below hb03 HD.out.lt
  have HD4 : Hid (Disk w3 g (NN N w w3) r F S) := hD3.nn
  have hl1 := HBEL.out.size
  have hl2 := HB2.out.size
  have HR4 : Hid (Rfd w3 (NN N w w3) a' b' c' d' F' S') := hR3.more (fun z hz => NN.nn hl1 (by omega) hz)
  have hw13 := hbox.lt
  have HA1 := Lib.hid (NN.ne HD.out.lt hw13 hR2.na)
  have HA2 := Lib.hid (NN.ne HD.out.lt hw13 hR2.nb)
  have HBX := Lib.hid hbox3
  have HH8 := Lib.hid hh8
  have hbl := hbox2.lt
  clear hD3 hD2 hR3 hR2 hbox hbox2 hbox3 hb3 hb03 hh8
  obtain ⟨g8, hg8⟩ : ∃ g8, g8 = w2.heap.size := ⟨_, rfl⟩
  rw [← hg8] at HH8 hsz3 hl2 hbl ⊢
  have hM : ∀ z, w.heap.size ≤ z → z < w.heap.size + 3 → NN N w w3 z := fun z h1 h2 => .inr ⟨h1, by omega⟩
  have hM8 : NN N w w3 g8 := .inr ⟨by omega, by omega⟩
  have HM := Lib.hid hM
  have HM8 := Lib.hid hM8
  obtain ⟨o0, o1, o2, o3, o4, o5⟩ := HBX.out.op
  obtain ⟨e0, e1, e2⟩ := cells3_of HH8.out
  have n1 : ¬ g8 = w.heap.size + 1 + 1 := by omega
  have n2 : ¬ w.heap.size + 1 = w.heap.size + 1 + 1 := by omega
  have n3 : ¬ g8 = w.heap.size + 1 := by omega
  clear hM hM8 hg8 o0 o2 o3 o5
  go_region_held3 (fun w' => w'.cell? ⟨g8, 0, none⟩ = some (.int .i64 (r : Nat)) ∧ w'.cell? ⟨g8, 1, none⟩ = some (.slice (some ⟨a', 0, none⟩) 256 c') ∧ w'.cell? ⟨g8, 2, none⟩ = some (.slice (some ⟨b', 0, none⟩) 256 d') ∧ w'.cell? ⟨w.heap.size + 1, 1, none⟩ = some (.int .i64 file) ∧ w'.cell? ⟨w.heap.size + 1, 4, none⟩ = some (.string s)) (go_keep)
    ((go_at_call 10; refine (HD1.out _ (NN N w w3) (by first | exact HD4.out.drew | exact HD4.out)).mono ?_; rintro e w4 ⟨rfl, hD5, hK5⟩; obtain ⟨hx1, hx2⟩ := does_after (wy := w4) HBX.out HH8.out ⟨hK5.os, hK5.tape, hK5.output, hK5.size, hK5.block⟩ HM.out HM8.out; obtain ⟨q0, q1, q2, q3, q4, q5⟩ := hx1.op; obtain ⟨s0, s1, s2⟩ := hx1.res; obtain ⟨y0, y1, y2⟩ := cells3_of hx2; have f0 := hx1.resf 0; have f1 := hx1.resf 1; have f2 := hx1.resf 2; have z0 := far3 (g := w.heap.size + 1 + 1) (u0 := .int .i64 (r : Nat)) (u1 := .slice (some ⟨a', 0, none⟩) 256 c') (u2 := .slice (some ⟨b', 0, none⟩) 256 d') y0 n1; have z1 := far3 (g := w.heap.size + 1 + 1) (u0 := .int .i64 (r : Nat)) (u1 := .slice (some ⟨a', 0, none⟩) 256 c') (u2 := .slice (some ⟨b', 0, none⟩) 256 d') y1 n1; have z2 := far3 (g := w.heap.size + 1 + 1) (u0 := .int .i64 (r : Nat)) (u1 := .slice (some ⟨a', 0, none⟩) 256 c') (u2 := .slice (some ⟨b', 0, none⟩) 256 d') y2 n1; have z3 := far3 (g := w.heap.size + 1 + 1) (u0 := .int .i64 (r : Nat)) (u1 := .slice (some ⟨a', 0, none⟩) 256 c') (u2 := .slice (some ⟨b', 0, none⟩) 256 d') q1 n2; have z4 := far3 (g := w.heap.size + 1 + 1) (u0 := .int .i64 (r : Nat)) (u1 := .slice (some ⟨a', 0, none⟩) 256 c') (u2 := .slice (some ⟨b', 0, none⟩) 256 d') q4 n2))
  all_goals
    go_wp2_with fail
    have hk34 : Kept (NN N w w3) w3 w4 := ⟨hK5.os, hK5.tape, hK5.output, hK5.size, hK5.block⟩
    obtain ⟨p1, p2, p3⟩ := stored_did HD.out.lt (HM.out _ (by omega) (by omega)) hD5 (HR4.out.kept hk34) HA1.out HA2.out (HK3.out.trans (hk34.less (fun z hz => .inl hz)))
    obtain ⟨c0, c1, c2⟩ := cells3_of (show (stored3 w4 (w.heap.size + 1 + 1) r a' b' c' d').heap[w.heap.size + 1 + 1]? = _ from heap_of_cells (heap_of_cells (heap_of_cells hx1.b6 0 _) 1 _) 2 _)
    refine bodyPost_ret (v := .tuple #[rval r a' b' c' d', .bool true]) ?_ rfl ⟨_, NN N w w3, F', S', rfl, fun z hz => .inl hz, p1, p2, p3⟩
    unfold stored3 at c0 c1 c2
    unfold rval
    simp [results, Try.results18, go_sem, c0, c1, c2]
set_option maxRecDepth 100000 in
set_option maxHeartbeats 6400000 in
theorem does_trim {w : World} {N : Nat → Prop} {g a b c d r : Nat} {F : Nat → List UInt8} {S : Nat → Nat} (hD : Disk w g N r F S) (hR : Rfd w N a b c d F S) (file x y : Int) (s : ByteArray) {kv : Value} (kvs : ∃ a m c, kv = .slice a m c) :
    Calls Try.prog 18 #[.pointer (some ⟨g, 0, none⟩), rval r a b c d, .agg #[.int .i64 3, .int .i64 file, .int .i64 x, .int .i64 y, .string s, kv]] w (DidPost w N g r) := by
  obtain ⟨ka, km, kc, rfl⟩ := kvs
  obtain ⟨code, F', S', hr1, hd1⟩ := trim_pair hD file x
  have hbox := Dbx.new w r a b c d 3 file x y s (.slice ka km kc)
  have hbel : Below w.heap.size w (((w.alloc (.cells #[.int .i64 (r : Nat), .slice (some ⟨a, 0, none⟩) 256 c, .slice (some ⟨b, 0, none⟩) 256 d] 45)).alloc (.cells #[.int .i64 3, .int .i64 file, .int .i64 x, .int .i64 y, .string s, .slice ka km kc] 49)).alloc (.cells #[.int .i64 0, .slice none 0 0, .slice none 0 0] 45)) :=
    (((Below.refl _ _).alloc (Nat.le_refl _) _).alloc (by simp) _).alloc (by simp; omega) _
  have HR1 := Lib.hid hr1
  have HD1 := Lib.hid hd1
  have HR := Lib.hid hR
  have HD := Lib.hid hD
  clear hr1 hd1 hR hD
  unfold rval
  go_enter Try.func18, Try.ntmps18
  go_wp2_with fail
  generalize ((w.alloc (.cells #[.int .i64 (r : Nat), .slice (some ⟨a, 0, none⟩) 256 c, .slice (some ⟨b, 0, none⟩) 256 d] 45)).alloc (.cells #[.int .i64 3, .int .i64 file, .int .i64 x, .int .i64 y, .string s, .slice ka km kc] 49)).alloc (.cells #[.int .i64 0, .slice none 0 0, .slice none 0 0] 45) = w1 at *
  refine (HR1.out w1 N a b c d (HR.out.below hbel)).mono ?_
  rintro e w2 ⟨v, rfl, hrf, hb2⟩
  obtain ⟨a', b', c', d', rfl, hR2⟩ := hrf
  unfold rval
  have hD1 := HD.out.below hbel
  have hD2 := hD1.below hb2
  have hbox2 := hbox.below hb2
  have HBEL := Lib.hid hbel
  have HB2 := Lib.hid hb2
  clear hbel hD1 hb2
  go_wp2_with fail
  have hb3 : Below w2.heap.size w2 (w2.alloc (.cells #[.int .i64 (r : Nat), .slice (some ⟨a', 0, none⟩) 256 c', .slice (some ⟨b', 0, none⟩) 256 d'] 45)) := (Below.refl _ _).alloc (Nat.le_refl _) _
  have hh8 : (w2.alloc (.cells #[.int .i64 (r : Nat), .slice (some ⟨a', 0, none⟩) 256 c', .slice (some ⟨b', 0, none⟩) 256 d'] 45)).heap[w2.heap.size]? = some (.cells #[.int .i64 (r : Nat), .slice (some ⟨a', 0, none⟩) 256 c', .slice (some ⟨b', 0, none⟩) 256 d'] 45 (0, 0)) := heap_alloc_new w2 _
  have hsz3 : (w2.alloc (.cells #[.int .i64 (r : Nat), .slice (some ⟨a', 0, none⟩) 256 c', .slice (some ⟨b', 0, none⟩) 256 d'] 45)).heap.size = w2.heap.size + 1 := by simp
  generalize w2.alloc (.cells #[.int .i64 (r : Nat), .slice (some ⟨a', 0, none⟩) 256 c', .slice (some ⟨b', 0, none⟩) 256 d'] 45) = w3 at *
  have hD3 := hD2.below hb3
  have hbox3 := hbox2.below hb3
  have hR3 := hR2.below hb3
  have hb03 : Below w.heap.size w w3 := HBEL.out.trans ((HB2.out.mono HBEL.out.size).trans (hb3.mono (Nat.le_trans HBEL.out.size HB2.out.size)))
  have HK3 : Hid (Kept N w w3) := Kept.of_below hb03 HD.out.lt
  have HD4 : Hid (Disk w3 g (NN N w w3) r F S) := hD3.nn
  have hl1 := HBEL.out.size
  have hl2 := HB2.out.size
  have HR4 : Hid (Rfd w3 (NN N w w3) a' b' c' d' F' S') := hR3.more (fun z hz => NN.nn hl1 (by omega) hz)
  have hw13 := hbox.lt
  have HA1 := Lib.hid (NN.ne HD.out.lt hw13 hR2.na)
  have HA2 := Lib.hid (NN.ne HD.out.lt hw13 hR2.nb)
  have HBX := Lib.hid hbox3
  have HH8 := Lib.hid hh8
  have hbl := hbox2.lt
  clear hD3 hD2 hR3 hR2 hbox hbox2 hbox3 hb3 hb03 hh8
  obtain ⟨g8, hg8⟩ : ∃ g8, g8 = w2.heap.size := ⟨_, rfl⟩
  rw [← hg8] at HH8 hsz3 hl2 hbl ⊢
  have hM : ∀ z, w.heap.size ≤ z → z < w.heap.size + 3 → NN N w w3 z := fun z h1 h2 => .inr ⟨h1, by omega⟩
  have hM8 : NN N w w3 g8 := .inr ⟨by omega, by omega⟩
  have HM := Lib.hid hM
  have HM8 := Lib.hid hM8
  obtain ⟨o0, o1, o2, o3, o4, o5⟩ := HBX.out.op
  obtain ⟨e0, e1, e2⟩ := cells3_of HH8.out
  have n1 : ¬ g8 = w.heap.size + 1 + 1 := by omega
  have n2 : ¬ w.heap.size + 1 = w.heap.size + 1 + 1 := by omega
  have n3 : ¬ g8 = w.heap.size + 1 := by omega
  clear hM hM8 hg8 o0 o3 o4 o5
  go_region_held3 (fun w' => w'.cell? ⟨g8, 0, none⟩ = some (.int .i64 (r : Nat)) ∧ w'.cell? ⟨g8, 1, none⟩ = some (.slice (some ⟨a', 0, none⟩) 256 c') ∧ w'.cell? ⟨g8, 2, none⟩ = some (.slice (some ⟨b', 0, none⟩) 256 d') ∧ w'.cell? ⟨w.heap.size + 1, 1, none⟩ = some (.int .i64 file) ∧ w'.cell? ⟨w.heap.size + 1, 2, none⟩ = some (.int .i64 x)) (go_keep)
    ((go_at_call 20; refine (HD1.out _ (NN N w w3) (by first | exact HD4.out.drew | exact HD4.out)).mono ?_; rintro e w4 ⟨rfl, hD5, hK5⟩; obtain ⟨hx1, hx2⟩ := does_after (wy := w4) HBX.out HH8.out ⟨hK5.os, hK5.tape, hK5.output, hK5.size, hK5.block⟩ HM.out HM8.out; obtain ⟨q0, q1, q2o, q3, q4, q5⟩ := hx1.op; obtain ⟨s0, s1, s2⟩ := hx1.res; obtain ⟨y0, y1, y2⟩ := cells3_of hx2; have f0 := hx1.resf 0; have f1 := hx1.resf 1; have f2 := hx1.resf 2; have z0 := far3 (g := w.heap.size + 1 + 1) (u0 := .int .i64 (r : Nat)) (u1 := .slice (some ⟨a', 0, none⟩) 256 c') (u2 := .slice (some ⟨b', 0, none⟩) 256 d') y0 n1; have z1 := far3 (g := w.heap.size + 1 + 1) (u0 := .int .i64 (r : Nat)) (u1 := .slice (some ⟨a', 0, none⟩) 256 c') (u2 := .slice (some ⟨b', 0, none⟩) 256 d') y1 n1; have z2 := far3 (g := w.heap.size + 1 + 1) (u0 := .int .i64 (r : Nat)) (u1 := .slice (some ⟨a', 0, none⟩) 256 c') (u2 := .slice (some ⟨b', 0, none⟩) 256 d') y2 n1; have z3 := far3 (g := w.heap.size + 1 + 1) (u0 := .int .i64 (r : Nat)) (u1 := .slice (some ⟨a', 0, none⟩) 256 c') (u2 := .slice (some ⟨b', 0, none⟩) 256 d') q1 n2; have z4 := far3 (g := w.heap.size + 1 + 1) (u0 := .int .i64 (r : Nat)) (u1 := .slice (some ⟨a', 0, none⟩) 256 c') (u2 := .slice (some ⟨b', 0, none⟩) 256 d') q2o n2))
  all_goals
    go_wp2_with fail
    have hk34 : Kept (NN N w w3) w3 w4 := ⟨hK5.os, hK5.tape, hK5.output, hK5.size, hK5.block⟩
    obtain ⟨p1, p2, p3⟩ := stored_did HD.out.lt (HM.out _ (by omega) (by omega)) hD5 (HR4.out.kept hk34) HA1.out HA2.out (HK3.out.trans (hk34.less (fun z hz => .inl hz)))
    obtain ⟨c0, c1, c2⟩ := cells3_of (show (stored3 w4 (w.heap.size + 1 + 1) r a' b' c' d').heap[w.heap.size + 1 + 1]? = _ from heap_of_cells (heap_of_cells (heap_of_cells hx1.b6 0 _) 1 _) 2 _)
    refine bodyPost_ret (v := .tuple #[rval r a' b' c' d', .bool true]) ?_ rfl ⟨_, NN N w w3, F', S', rfl, fun z hz => .inl hz, p1, p2, p3⟩
    unfold stored3 at c0 c1 c2
    unfold rval
    simp [results, Try.results18, go_sem, c0, c1, c2]

set_option maxRecDepth 100000 in
set_option maxHeartbeats 6400000 in
theorem does_swap {w : World} {N : Nat → Prop} {g a b c d r : Nat} {F : Nat → List UInt8} {S : Nat → Nat} (hD : Disk w g N r F S) (hR : Rfd w N a b c d F S) (file x y : Int) (s : ByteArray) {kv : Value} (kvs : ∃ a m c, kv = .slice a m c) :
    Calls Try.prog 18 #[.pointer (some ⟨g, 0, none⟩), rval r a b c d, .agg #[.int .i64 5, .int .i64 file, .int .i64 x, .int .i64 y, .string s, kv]] w (DidPost w N g r) := by
  obtain ⟨ka, km, kc, rfl⟩ := kvs
  obtain ⟨code, F', S', hr1, hd1⟩ := swap_pair hD file x
  have hbox := Dbx.new w r a b c d 5 file x y s (.slice ka km kc)
  have hbel : Below w.heap.size w (((w.alloc (.cells #[.int .i64 (r : Nat), .slice (some ⟨a, 0, none⟩) 256 c, .slice (some ⟨b, 0, none⟩) 256 d] 45)).alloc (.cells #[.int .i64 5, .int .i64 file, .int .i64 x, .int .i64 y, .string s, .slice ka km kc] 49)).alloc (.cells #[.int .i64 0, .slice none 0 0, .slice none 0 0] 45)) :=
    (((Below.refl _ _).alloc (Nat.le_refl _) _).alloc (by simp) _).alloc (by simp; omega) _
  have HR1 := Lib.hid hr1
  have HD1 := Lib.hid hd1
  have HR := Lib.hid hR
  have HD := Lib.hid hD
  clear hr1 hd1 hR hD
  unfold rval
  go_enter Try.func18, Try.ntmps18
  go_wp2_with fail
  generalize ((w.alloc (.cells #[.int .i64 (r : Nat), .slice (some ⟨a, 0, none⟩) 256 c, .slice (some ⟨b, 0, none⟩) 256 d] 45)).alloc (.cells #[.int .i64 5, .int .i64 file, .int .i64 x, .int .i64 y, .string s, .slice ka km kc] 49)).alloc (.cells #[.int .i64 0, .slice none 0 0, .slice none 0 0] 45) = w1 at *
  refine (HR1.out w1 N a b c d (HR.out.below hbel)).mono ?_
  rintro e w2 ⟨v, rfl, hrf, hb2⟩
  obtain ⟨a', b', c', d', rfl, hR2⟩ := hrf
  unfold rval
  have hD1 := HD.out.below hbel
  have hD2 := hD1.below hb2
  have hbox2 := hbox.below hb2
  have HBEL := Lib.hid hbel
  have HB2 := Lib.hid hb2
  clear hbel hD1 hb2
  go_wp2_with fail
  have hb3 : Below w2.heap.size w2 (w2.alloc (.cells #[.int .i64 (r : Nat), .slice (some ⟨a', 0, none⟩) 256 c', .slice (some ⟨b', 0, none⟩) 256 d'] 45)) := (Below.refl _ _).alloc (Nat.le_refl _) _
  have hh8 : (w2.alloc (.cells #[.int .i64 (r : Nat), .slice (some ⟨a', 0, none⟩) 256 c', .slice (some ⟨b', 0, none⟩) 256 d'] 45)).heap[w2.heap.size]? = some (.cells #[.int .i64 (r : Nat), .slice (some ⟨a', 0, none⟩) 256 c', .slice (some ⟨b', 0, none⟩) 256 d'] 45 (0, 0)) := heap_alloc_new w2 _
  have hsz3 : (w2.alloc (.cells #[.int .i64 (r : Nat), .slice (some ⟨a', 0, none⟩) 256 c', .slice (some ⟨b', 0, none⟩) 256 d'] 45)).heap.size = w2.heap.size + 1 := by simp
  generalize w2.alloc (.cells #[.int .i64 (r : Nat), .slice (some ⟨a', 0, none⟩) 256 c', .slice (some ⟨b', 0, none⟩) 256 d'] 45) = w3 at *
  have hD3 := hD2.below hb3
  have hbox3 := hbox2.below hb3
  have hR3 := hR2.below hb3
  have hb03 : Below w.heap.size w w3 := HBEL.out.trans ((HB2.out.mono HBEL.out.size).trans (hb3.mono (Nat.le_trans HBEL.out.size HB2.out.size)))
  have HK3 : Hid (Kept N w w3) := Kept.of_below hb03 HD.out.lt
  have HD4 : Hid (Disk w3 g (NN N w w3) r F S) := hD3.nn
  have hl1 := HBEL.out.size
  have hl2 := HB2.out.size
  have HR4 : Hid (Rfd w3 (NN N w w3) a' b' c' d' F' S') := hR3.more (fun z hz => NN.nn hl1 (by omega) hz)
  have hw13 := hbox.lt
  have HA1 := Lib.hid (NN.ne HD.out.lt hw13 hR2.na)
  have HA2 := Lib.hid (NN.ne HD.out.lt hw13 hR2.nb)
  have HBX := Lib.hid hbox3
  have HH8 := Lib.hid hh8
  have hbl := hbox2.lt
  clear hD3 hD2 hR3 hR2 hbox hbox2 hbox3 hb3 hb03 hh8
  obtain ⟨g8, hg8⟩ : ∃ g8, g8 = w2.heap.size := ⟨_, rfl⟩
  rw [← hg8] at HH8 hsz3 hl2 hbl ⊢
  have hM : ∀ z, w.heap.size ≤ z → z < w.heap.size + 3 → NN N w w3 z := fun z h1 h2 => .inr ⟨h1, by omega⟩
  have hM8 : NN N w w3 g8 := .inr ⟨by omega, by omega⟩
  have HM := Lib.hid hM
  have HM8 := Lib.hid hM8
  obtain ⟨o0, o1, o2, o3, o4, o5⟩ := HBX.out.op
  obtain ⟨e0, e1, e2⟩ := cells3_of HH8.out
  have n1 : ¬ g8 = w.heap.size + 1 + 1 := by omega
  have n2 : ¬ w.heap.size + 1 = w.heap.size + 1 + 1 := by omega
  have n3 : ¬ g8 = w.heap.size + 1 := by omega
  clear hM hM8 hg8 o0 o3 o4 o5
  go_region_held3 (fun w' => w'.cell? ⟨g8, 0, none⟩ = some (.int .i64 (r : Nat)) ∧ w'.cell? ⟨g8, 1, none⟩ = some (.slice (some ⟨a', 0, none⟩) 256 c') ∧ w'.cell? ⟨g8, 2, none⟩ = some (.slice (some ⟨b', 0, none⟩) 256 d') ∧ w'.cell? ⟨w.heap.size + 1, 1, none⟩ = some (.int .i64 file) ∧ w'.cell? ⟨w.heap.size + 1, 2, none⟩ = some (.int .i64 x)) (go_keep)
    ((go_at_call 15; refine (HD1.out _ (NN N w w3) (by first | exact HD4.out.drew | exact HD4.out)).mono ?_; rintro e w4 ⟨rfl, hD5, hK5⟩; obtain ⟨hx1, hx2⟩ := does_after (wy := w4) HBX.out HH8.out ⟨hK5.os, hK5.tape, hK5.output, hK5.size, hK5.block⟩ HM.out HM8.out; obtain ⟨q0, q1, q2o, q3, q4, q5⟩ := hx1.op; obtain ⟨s0, s1, s2⟩ := hx1.res; obtain ⟨y0, y1, y2⟩ := cells3_of hx2; have f0 := hx1.resf 0; have f1 := hx1.resf 1; have f2 := hx1.resf 2; have z0 := far3 (g := w.heap.size + 1 + 1) (u0 := .int .i64 (r : Nat)) (u1 := .slice (some ⟨a', 0, none⟩) 256 c') (u2 := .slice (some ⟨b', 0, none⟩) 256 d') y0 n1; have z1 := far3 (g := w.heap.size + 1 + 1) (u0 := .int .i64 (r : Nat)) (u1 := .slice (some ⟨a', 0, none⟩) 256 c') (u2 := .slice (some ⟨b', 0, none⟩) 256 d') y1 n1; have z2 := far3 (g := w.heap.size + 1 + 1) (u0 := .int .i64 (r : Nat)) (u1 := .slice (some ⟨a', 0, none⟩) 256 c') (u2 := .slice (some ⟨b', 0, none⟩) 256 d') y2 n1; have z3 := far3 (g := w.heap.size + 1 + 1) (u0 := .int .i64 (r : Nat)) (u1 := .slice (some ⟨a', 0, none⟩) 256 c') (u2 := .slice (some ⟨b', 0, none⟩) 256 d') q1 n2; have z4 := far3 (g := w.heap.size + 1 + 1) (u0 := .int .i64 (r : Nat)) (u1 := .slice (some ⟨a', 0, none⟩) 256 c') (u2 := .slice (some ⟨b', 0, none⟩) 256 d') q2o n2))
  all_goals
    go_wp2_with fail
    have hk34 : Kept (NN N w w3) w3 w4 := ⟨hK5.os, hK5.tape, hK5.output, hK5.size, hK5.block⟩
    obtain ⟨p1, p2, p3⟩ := stored_did HD.out.lt (HM.out _ (by omega) (by omega)) hD5 (HR4.out.kept hk34) HA1.out HA2.out (HK3.out.trans (hk34.less (fun z hz => .inl hz)))
    obtain ⟨c0, c1, c2⟩ := cells3_of (show (stored3 w4 (w.heap.size + 1 + 1) r a' b' c' d').heap[w.heap.size + 1 + 1]? = _ from heap_of_cells (heap_of_cells (heap_of_cells hx1.b6 0 _) 1 _) 2 _)
    refine bodyPost_ret (v := .tuple #[rval r a' b' c' d', .bool true]) ?_ rfl ⟨_, NN N w w3, F', S', rfl, fun z hz => .inl hz, p1, p2, p3⟩
    unfold stored3 at c0 c1 c2
    unfold rval
    simp [results, Try.results18, go_sem, c0, c1, c2]

set_option maxRecDepth 100000 in
set_option maxHeartbeats 6400000 in
theorem does_other {w : World} {N : Nat → Prop} {g a b c d r : Nat} {F : Nat → List UInt8} {S : Nat → Nat} (hD : Disk w g N r F S) (hR : Rfd w N a b c d F S) (kind : Int) (hkind : kind ≠ 1 ∧ kind ≠ 2 ∧ kind ≠ 3 ∧ kind ≠ 4 ∧ kind ≠ 5 ∧ kind ≠ 6 ∧ kind ≠ 7) (file x y : Int) (s : ByteArray) {kv : Value} (kvs : ∃ a m c, kv = .slice a m c) :
    Calls Try.prog 18 #[.pointer (some ⟨g, 0, none⟩), rval r a b c d, .agg #[.int .i64 kind, .int .i64 file, .int .i64 x, .int .i64 y, .string s, kv]] w (DidPost w N g r) := by
  obtain ⟨ka, km, kc, rfl⟩ := kvs
  have hbox := Dbx.new w r a b c d kind file x y s (.slice ka km kc)
  have hbel : Below w.heap.size w (((w.alloc (.cells #[.int .i64 (r : Nat), .slice (some ⟨a, 0, none⟩) 256 c, .slice (some ⟨b, 0, none⟩) 256 d] 45)).alloc (.cells #[.int .i64 kind, .int .i64 file, .int .i64 x, .int .i64 y, .string s, .slice ka km kc] 49)).alloc (.cells #[.int .i64 0, .slice none 0 0, .slice none 0 0] 45)) :=
    (((Below.refl _ _).alloc (Nat.le_refl _) _).alloc (by simp) _).alloc (by simp; omega) _
  obtain ⟨h1, h2, h3, h4, h5, h6, h7⟩ := hkind
  have k1 : (kind == 1) = false := by simpa using h1
  have k2 : (kind == 2) = false := by simpa using h2
  have k3 : (kind == 3) = false := by simpa using h3
  have k4 : (kind == 4) = false := by simpa using h4
  have k5 : (kind == 5) = false := by simpa using h5
  have k6 : (kind == 6) = false := by simpa using h6
  have k7 : (kind == 7) = false := by simpa using h7
  have HR := Lib.hid hR
  have HD := Lib.hid hD
  clear hR hD h1 h2 h3 h4 h5 h6 h7
  unfold rval
  go_enter Try.func18, Try.ntmps18
  go_wp2_with fail
  obtain ⟨m1, m2, m3⟩ := alloc3 w (.cells #[.int .i64 (r : Nat), .slice (some ⟨a, 0, none⟩) 256 c, .slice (some ⟨b, 0, none⟩) 256 d] 45) (.cells #[.int .i64 kind, .int .i64 file, .int .i64 x, .int .i64 y, .string s, .slice ka km kc] 49) (.cells #[.int .i64 (r : Nat), .slice (some ⟨a, 0, none⟩) 256 c, .slice (some ⟨b, 0, none⟩) 256 d] 45)
  have hb : Below w.heap.size w (((w.alloc (.cells #[.int .i64 (r : Nat), .slice (some ⟨a, 0, none⟩) 256 c, .slice (some ⟨b, 0, none⟩) 256 d] 45)).alloc (.cells #[.int .i64 kind, .int .i64 file, .int .i64 x, .int .i64 y, .string s, .slice ka km kc] 49)).alloc (.cells #[.int .i64 (r : Nat), .slice (some ⟨a, 0, none⟩) 256 c, .slice (some ⟨b, 0, none⟩) 256 d] 45)) :=
    (((Below.refl _ _).alloc (Nat.le_refl _) _).alloc (by simp) _).alloc (by simp; omega) _
  obtain ⟨c0, c1, c2⟩ := cells3_of m3
  clear m1 m2 m3
  generalize ((w.alloc (.cells #[.int .i64 (r : Nat), .slice (some ⟨a, 0, none⟩) 256 c, .slice (some ⟨b, 0, none⟩) 256 d] 45)).alloc (.cells #[.int .i64 kind, .int .i64 file, .int .i64 x, .int .i64 y, .string s, .slice ka km kc] 49)).alloc (.cells #[.int .i64 (r : Nat), .slice (some ⟨a, 0, none⟩) 256 c, .slice (some ⟨b, 0, none⟩) 256 d] 45) = wf at *
  refine bodyPost_ret (v := .tuple #[rval r a b c d, .bool true]) ?_ rfl ⟨_, NN N w wf, F, S, rfl, fun z hz => .inl hz, HD.out.below hb, HR.out.old hb, Kept.of_below hb HD.out.lt⟩
  unfold rval
  simp [results, Try.results18, go_sem, c0, c1, c2]

end Go.Proofs.Ytgcghdinccdphaa
