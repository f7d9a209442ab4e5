/-
  The reference's disk as a value, and its functions that read: file, Used, Bytes.
-/
import Derived.Test.YtgcghdinccdphaaAwake
import Derived.Deep.RegionHeld3
import Derived.Deep.AppendLies
import Derived.StillTailTactics
namespace Go.Proofs.Ytgcghdinccdphaa
open Go.RowKit

/-- the reference's disk: two rows of 256 -/
structure Rfd (w : World) (N : Nat → Prop) (a b c d : Nat) (F : Nat → List UInt8) (S : Nat → Nat) : Prop where
  na : N a
  nb : N b
  all : ∀ k, k < 256 → w.cell? ⟨a, k, none⟩ = some (.string (txt (F k)))
  sure : ∀ k, k < 256 → w.cell? ⟨b, k, none⟩ = some (.int .i64 (S k : Nat))
  c1 : 256 ≤ c
  c2 : c ≤ 9223372036854775807
  d1 : 256 ≤ d
  d2 : d ≤ 9223372036854775807
/-- the value -/
def rval (r a b c d : Nat) : Value := .agg #[.int .i64 (r : Nat), .slice (some ⟨a, 0, none⟩) 256 c, .slice (some ⟨b, 0, none⟩) 256 d]
def Rf (w : World) (N : Nat → Prop) (v : Value) (r : Nat) (F : Nat → List UInt8) (S : Nat → Nat) : Prop := ∃ a b c d, v = rval r a b c d ∧ Rfd w N a b c d F S
theorem Rfd.alt {w : World} {N : Nat → Prop} {a b c d : Nat} {F : Nat → List UInt8} {S : Nat → Nat} (h : Rfd w N a b c d F S) : a < w.heap.size := cell_lt (h.all 0 (by omega))
theorem Rfd.blt {w : World} {N : Nat → Prop} {a b c d : Nat} {F : Nat → List UInt8} {S : Nat → Nat} (h : Rfd w N a b c d F S) : b < w.heap.size := cell_lt (h.sure 0 (by omega))
theorem Rfd.move {w w' : World} {N : Nat → Prop} {a b c d : Nat} {F : Nat → List UInt8} {S : Nat → Nat} (h : Rfd w N a b c d F S) (ha : w'.heap[a]? = w.heap[a]?) (hb : w'.heap[b]? = w.heap[b]?) : Rfd w' N a b c d F S :=
  ⟨h.na, h.nb, fun k hk => (World.cell?_of_block (a := ⟨a, k, none⟩) ha).trans (h.all k hk), fun k hk => (World.cell?_of_block (a := ⟨b, k, none⟩) hb).trans (h.sure k hk), h.c1, h.c2, h.d1, h.d2⟩
theorem Rfd.below {w w' : World} {N : Nat → Prop} {a b c d : Nat} {F : Nat → List UInt8} {S : Nat → Nat} (h : Rfd w N a b c d F S) (hb : Below w.heap.size w w') : Rfd w' N a b c d F S := h.move (hb.block a h.alt) (hb.block b h.blt)
theorem Rfd.kept {w w' : World} {N : Nat → Prop} {a b c d : Nat} {F : Nat → List UInt8} {S : Nat → Nat} (h : Rfd w N a b c d F S) (hk : Kept N w w') : Rfd w' N a b c d F S := h.move (hk.block a h.na) (hk.block b h.nb)
theorem Rfd.more {w : World} {N N' : Nat → Prop} {a b c d : Nat} {F : Nat → List UInt8} {S : Nat → Nat} (h : Rfd w N a b c d F S) (hN : ∀ x, N x → N' x) : Rfd w N' a b c d F S := ⟨hN a h.na, hN b h.nb, h.all, h.sure, h.c1, h.c2, h.d1, h.d2⟩
theorem Rf.kept {w w' : World} {N : Nat → Prop} {v : Value} {r : Nat} {F : Nat → List UInt8} {S : Nat → Nat} (h : Rf w N v r F S) (hk : Kept N w w') : Rf w' N v r F S := by
  obtain ⟨a, b, c, d, hv, h⟩ := h; exact ⟨a, b, c, d, hv, h.kept hk⟩
theorem Rf.below {w w' : World} {N : Nat → Prop} {v : Value} {r : Nat} {F : Nat → List UInt8} {S : Nat → Nat} (h : Rf w N v r F S) (hb : Below w.heap.size w w') : Rf w' N v r F S := by
  obtain ⟨a, b, c, d, hv, h⟩ := h; exact ⟨a, b, c, d, hv, h.below hb⟩
theorem Rf.more {w : World} {N N' : Nat → Prop} {v : Value} {r : Nat} {F : Nat → List UInt8} {S : Nat → Nat} (h : Rf w N v r F S) (hN : ∀ x, N x → N' x) : Rf w N' v r F S := by
  obtain ⟨a, b, c, d, hv, h⟩ := h; exact ⟨a, b, c, d, hv, h.more hN⟩

set_option maxRecDepth 100000 in
theorem file_yes (k : Nat) (hk : k < 256) (w : World) : Calls Try.prog 29 #[.int .i64 k] w fun e w' => e = .returned (.bool true) ∧ w = w' := by
  have h0 : (0 : Int) ≤ (k : Int) := by omega
  have h1 : (k : Int) < 256 := by omega
  go_enter Try.func29, Try.ntmps29
  go_wp2_with fail
  go_ret
  exact ⟨rfl, rfl⟩
set_option maxRecDepth 100000 in
theorem file_no (k : Int) (hk : k < 0 ∨ 256 ≤ k) (w : World) : Calls Try.prog 29 #[.int .i64 k] w fun e w' => e = .returned (.bool false) ∧ w = w' := by
  rcases hk with hk | hk
  · go_enter Try.func29, Try.ntmps29
    go_wp2_with fail
    go_ret
    exact ⟨rfl, rfl⟩
  · have h0 : 0 ≤ k := by omega
    have h1 : decide (k < 256) = false := by simp; omega
    go_enter Try.func29, Try.ntmps29
    go_wp2_with fail
    go_ret
    exact ⟨rfl, rfl⟩

theorem ret_str2 {a b : ByteArray} {v : Value} (h : a = b) : Ending.returned (.tuple #[.string a, v]) = .returned (.tuple #[.string b, v]) := by rw [h]
/-- the cells of a value in a variable -/
theorem box3 (w : World) (x y z : Value) (t : TypeId) : (w.alloc (.cells #[x, y, z] t)).cell? ⟨w.heap.size, 0, none⟩ = some x ∧ (w.alloc (.cells #[x, y, z] t)).cell? ⟨w.heap.size, 1, none⟩ = some y ∧ (w.alloc (.cells #[x, y, z] t)).cell? ⟨w.heap.size, 2, none⟩ = some z := by
  have hh := heap_alloc_new w (.cells #[x, y, z] t)
  exact ⟨by rw [cell_of_row _ _ _ _ _ _ hh]; rfl, by rw [cell_of_row _ _ _ _ _ _ hh]; rfl, by rw [cell_of_row _ _ _ _ _ _ hh]; rfl⟩

set_option maxRecDepth 100000 in
set_option maxHeartbeats 1600000 in
/-- Used of the reference -/
theorem rused_any {w : World} {N : Nat → Prop} {a b c d r : Nat} {F : Nat → List UInt8} {S : Nat → Nat} (h : Rfd w N a b c d F S) (hT : total F 256 ≤ 16777216) :
    Calls Try.prog 28 #[rval r a b c d] w fun e w' => e = .returned (.int .i64 (total F 256 : Nat)) ∧ Below w.heap.size w w' := by
  unfold rval
  have hbel : Below w.heap.size w (w.alloc (.cells #[.int .i64 (r : Nat), .slice (some ⟨a, 0, none⟩) 256 c, .slice (some ⟨b, 0, none⟩) 256 d] 45)) := (Below.refl _ _).alloc (Nat.le_refl _) _
  have H := Lib.hid (h.below hbel)
  obtain ⟨_, x1, _⟩ := box3 w (.int .i64 (r : Nat)) (.slice (some ⟨a, 0, none⟩) 256 c) (.slice (some ⟨b, 0, none⟩) 256 d) 45
  have hsz := h.c2
  clear h
  go_enter Try.func28, Try.ntmps28
  go_wp2_with fail
  generalize w.alloc (.cells #[.int .i64 (r : Nat), .slice (some ⟨a, 0, none⟩) 256 c, .slice (some ⟨b, 0, none⟩) 256 d] 45) = w1 at *
  go_loop [3, 4] (fun s i => ∃ k : Nat, k ≤ 256 ∧ i = .int .i64 k ∧ s = .int .i64 (total F k : Nat)) (fun _ i => 256 - (intOf i).toNat)
  case atStart => exact ⟨0, by omega, rfl, rfl⟩
  case round =>
    obtain ⟨k, hk, rfl, rfl⟩ := hrel
    by_cases hlt : k < 256
    · have hc := H.out.all k hlt
      have hs : (txt (F k)).size = (F k).length := txt_size _
      have ht : total F (k + 1) = total F k + (F k).length := rfl
      have hm := total_mono F (show k + 1 ≤ 256 by omega)
      have hb2 : total F k + (F k).length ≤ 16777216 := by omega
      have k0 : (0 : Int) ≤ (k : Int) := by omega
      have k1 : (k : Int) < 256 := by omega
      have HT := Lib.hid ht
      rw [← hs] at hb2 HT
      clear ht hm hs
      generalize txt (F k) = T at *
      generalize total F k = s at *
      go_wp2_with fail
      go_round
      case rel => exact ⟨k + 1, by omega, i64_eq (by omega), by rw [HT.out]; exact i64_eq (by omega)⟩
      case measure => simp [intOf]; omega
    · obtain rfl : k = 256 := by omega
      go_wp2_with fail
      go_ret
      exact ⟨rfl, hbel⟩

set_option maxRecDepth 100000 in
set_option maxHeartbeats 1600000 in
/-- Bytes of the reference, that are there -/
theorem rbytes_ok {w : World} {N : Nat → Prop} {a b c d r : Nat} {F : Nat → List UInt8} {S : Nat → Nat} (h : Rfd w N a b c d F S) (hT : total F 256 ≤ 16777216) {k : Nat} (hk : k < 256) (i m : Nat) (him : i + m ≤ (F k).length) :
    Calls Try.prog 23 #[rval r a b c d, .int .i64 k, .int .i64 i, .int .i64 m] w fun e w' => e = .returned (.tuple #[.string (txt (((F k).drop i).take m)), .int .i64 0]) ∧ Below w.heap.size w w' := by
  unfold rval
  have hbel : Below w.heap.size w (w.alloc (.cells #[.int .i64 (r : Nat), .slice (some ⟨a, 0, none⟩) 256 c, .slice (some ⟨b, 0, none⟩) 256 d] 45)) := (Below.refl _ _).alloc (Nat.le_refl _) _
  obtain ⟨_, x1, _⟩ := box3 w (.int .i64 (r : Nat)) (.slice (some ⟨a, 0, none⟩) 256 c) (.slice (some ⟨b, 0, none⟩) 256 d) 45
  have hc := (h.below hbel).all k hk
  have hlen := total_one F hk
  have hs : (txt (F k)).size = (F k).length := txt_size _
  have hE : (txt (F k)).extract i (i + m) = txt (((F k).drop i).take m) := by
    apply ba_ext
    simp [txt, ByteArray.data_extract, List.extract_eq_take_drop]
  have HE := Lib.hid hE
  have HF := Lib.hid (file_yes k hk)
  rw [← hs] at him hlen
  have k0 : (0 : Int) ≤ (k : Int) := by omega
  have k1 : (k : Int) < 256 := by omega
  clear h hE hs
  generalize txt (F k) = T at *
  go_enter Try.func23, Try.ntmps23
  go_wp2_with fail
  generalize w.alloc (.cells #[.int .i64 (r : Nat), .slice (some ⟨a, 0, none⟩) 256 c, .slice (some ⟨b, 0, none⟩) 256 d] 45) = w1 at *
  refine (HF.out _).mono ?_
  rintro e w2 ⟨rfl, rfl⟩
  go_wp2_with fail
  go_ret2
  exact ⟨ret_str2 HE.out, hbel⟩
set_option maxRecDepth 100000 in
set_option maxHeartbeats 1600000 in
/-- Bytes of the reference, that are not there -/
theorem rbytes_no {w : World} {N : Nat → Prop} {a b c d r : Nat} {F : Nat → List UInt8} {S : Nat → Nat} (h : Rfd w N a b c d F S) (_ : total F 256 ≤ 16777216) {k : Nat} (hk : k < 256) (i m : Int) (hi : -9223372036854775808 ≤ i ∧ i ≤ 9223372036854775807) (hm : -9223372036854775808 ≤ m ∧ m ≤ 9223372036854775807)
    (him : i < 0 ∨ (0 ≤ i ∧ m < 0) ∨ (0 ≤ i ∧ 0 ≤ m ∧ ((F k).length : Int) < i) ∨ (0 ≤ i ∧ 0 ≤ m ∧ i ≤ ((F k).length : Int) ∧ ((F k).length : Int) - i < m)) :
    Calls Try.prog 23 #[rval r a b c d, .int .i64 k, .int .i64 i, .int .i64 m] w fun e w' => e = .returned (.tuple #[.string ⟨#[]⟩, .int .i64 1]) ∧ Below w.heap.size w w' := by
  unfold rval
  have hbel : Below w.heap.size w (w.alloc (.cells #[.int .i64 (r : Nat), .slice (some ⟨a, 0, none⟩) 256 c, .slice (some ⟨b, 0, none⟩) 256 d] 45)) := (Below.refl _ _).alloc (Nat.le_refl _) _
  obtain ⟨_, x1, _⟩ := box3 w (.int .i64 (r : Nat)) (.slice (some ⟨a, 0, none⟩) 256 c) (.slice (some ⟨b, 0, none⟩) 256 d) 45
  have hc := (h.below hbel).all k hk
  have hlen := total_one F hk
  have hs : (txt (F k)).size = (F k).length := txt_size _
  have HF := Lib.hid (file_yes k hk)
  rw [← hs] at him hlen
  have k0 : (0 : Int) ≤ (k : Int) := by omega
  have k1 : (k : Int) < 256 := by omega
  clear h hs
  generalize txt (F k) = T at *
  rcases him with h1 | ⟨h1, h2⟩ | ⟨h1, h2, h3⟩ | ⟨h1, h2, h3, h4⟩
  · go_enter Try.func23, Try.ntmps23
    go_wp2_with fail
    generalize w.alloc (.cells #[.int .i64 (r : Nat), .slice (some ⟨a, 0, none⟩) 256 c, .slice (some ⟨b, 0, none⟩) 256 d] 45) = w1 at *
    refine (HF.out _).mono ?_
    rintro e w2 ⟨rfl, rfl⟩
    go_wp2_with fail
    go_ret2
    exact ⟨rfl, hbel⟩
  · have h1' : ¬ i < 0 := by omega
    go_enter Try.func23, Try.ntmps23
    go_wp2_with fail
    generalize w.alloc (.cells #[.int .i64 (r : Nat), .slice (some ⟨a, 0, none⟩) 256 c, .slice (some ⟨b, 0, none⟩) 256 d] 45) = w1 at *
    refine (HF.out _).mono ?_
    rintro e w2 ⟨rfl, rfl⟩
    go_wp2_with fail
    go_ret2
    exact ⟨rfl, hbel⟩
  · have h1' : ¬ i < 0 := by omega
    have h2' : ¬ m < 0 := by omega
    go_enter Try.func23, Try.ntmps23
    go_wp2_with fail
    generalize w.alloc (.cells #[.int .i64 (r : Nat), .slice (some ⟨a, 0, none⟩) 256 c, .slice (some ⟨b, 0, none⟩) 256 d] 45) = w1 at *
    refine (HF.out _).mono ?_
    rintro e w2 ⟨rfl, rfl⟩
    go_wp2_with fail
    go_ret2
    exact ⟨rfl, hbel⟩
  · have h1' : ¬ i < 0 := by omega
    have h2' : ¬ m < 0 := by omega
    have h3' : ¬ (T.size : Int) < i := by omega
    go_enter Try.func23, Try.ntmps23
    go_wp2_with fail
    generalize w.alloc (.cells #[.int .i64 (r : Nat), .slice (some ⟨a, 0, none⟩) 256 c, .slice (some ⟨b, 0, none⟩) 256 d] 45) = w1 at *
    refine (HF.out _).mono ?_
    rintro e w2 ⟨rfl, rfl⟩
    go_wp2_with fail
    go_ret2
    exact ⟨rfl, hbel⟩
set_option maxRecDepth 100000 in
theorem rbytes_none {w : World} {a b c d r : Nat} {k : Int} (hk : k < 0 ∨ 256 ≤ k) (i m : Int) :
    Calls Try.prog 23 #[rval r a b c d, .int .i64 k, .int .i64 i, .int .i64 m] w fun e w' => e = .returned (.tuple #[.string ⟨#[]⟩, .int .i64 1]) ∧ Below w.heap.size w w' := by
  unfold rval
  have hbel : Below w.heap.size w (w.alloc (.cells #[.int .i64 (r : Nat), .slice (some ⟨a, 0, none⟩) 256 c, .slice (some ⟨b, 0, none⟩) 256 d] 45)) := (Below.refl _ _).alloc (Nat.le_refl _) _
  have HF := Lib.hid (file_no k hk)
  clear hk
  go_enter Try.func23, Try.ntmps23
  go_wp2_with fail
  refine (HF.out _).mono ?_
  rintro e w2 ⟨rfl, rfl⟩
  go_wp2_with fail
  go_ret2
  exact ⟨rfl, hbel⟩
end Go.Proofs.Ytgcghdinccdphaa
