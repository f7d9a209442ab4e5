/-
  Rows of bytes in memory: a block whose cells are the bytes of a list; what stores, draws and new blocks do to it; the text of it.
-/
import Derived.Test.YtfjjckimgcofnaaRefCrc
import Derived.Laws.IdiomStrings
namespace Go.Proofs.Ytfjjckimgcofnaa
open Go.RowKit

/-- a row of bytes: cells of block g, none frozen -/
def Row (w : World) (g : Nat) (l : List UInt8) : Prop := ∀ j, j < l.length → w.cell? ⟨g, j, none⟩ = some (.int .u8 (l.getD j 0).toNat) ∧ w.frozen? ⟨g, j, none⟩ = false

theorem i64_and255 (n : Int) : bits .and .i64 n 255 = n % 256 := by
  have h127 : (BitVec.ofInt 64 255).toNat = 2 ^ 8 - 1 := by decide
  have key : (BitVec.ofInt 64 n &&& BitVec.ofInt 64 255).toNat = (n % ((2 ^ 64 : Nat) : Int)).toNat % 2 ^ 8 := by
    rw [BitVec.toNat_and, BitVec.toNat_ofInt, h127, Nat.and_two_pow_sub_one_eq_mod]
  show IntKind.i64.wrap ((BitVec.ofInt 64 n &&& BitVec.ofInt 64 255).toNat : Nat) = n % 256
  rw [key, IntKind.wrap_i64]
  omega
theorem i64_and32 (n : Int) : bits .and .i64 n 4294967295 = n % 4294967296 := by
  have h127 : (BitVec.ofInt 64 4294967295).toNat = 2 ^ 32 - 1 := by decide
  have key : (BitVec.ofInt 64 n &&& BitVec.ofInt 64 4294967295).toNat = (n % ((2 ^ 64 : Nat) : Int)).toNat % 2 ^ 32 := by
    rw [BitVec.toNat_and, BitVec.toNat_ofInt, h127, Nat.and_two_pow_sub_one_eq_mod]
  show IntKind.i64.wrap ((BitVec.ofInt 64 n &&& BitVec.ofInt 64 4294967295).toNat : Nat) = n % 4294967296
  rw [key, IntKind.wrap_i64]
  omega


theorem Row.set {w : World} {g : Nat} {l : List UInt8} (h : Row w g l) (i : Nat) (y : UInt8) : Row (w.setCell ⟨g, i, none⟩ (.int .u8 y.toNat)) g (l.set i y) := by
  intro j hj
  rw [List.length_set] at hj
  obtain ⟨h1, h2⟩ := h j hj
  refine ⟨?_, by rw [World.frozen?_setCell]; exact h2⟩
  by_cases e : i = j
  · subst e
    rw [World.cell?_setCell_same (h := h1), List.getD, List.getElem?_set_self hj]
    rfl
  · rw [World.cell?_setCell_other (h := fun h => e (by injection h)), h1, List.getD, List.getD, List.getElem?_set_ne e]
theorem Row.drew {w : World} {g : Nat} {l : List UInt8} (h : Row w g l) : Row w.drew g l := h
/-- the i-th byte of a number -/
def byteOf (x : Int) (i : Nat) : UInt8 := UInt8.ofNat ((x / 2 ^ (8 * i)) % 256).toNat
theorem byteOf_bits (a : UInt8) (x : Int) (i : Nat) : bits .xor .u8 (a.toNat : Int) (bits .and .i64 (x / 2 ^ (8 * i)) 255 % 256) = (((a ^^^ byteOf x i).toNat : Nat) : Int) := by
  rw [i64_and255]
  have e : x / 2 ^ (8 * i) % 256 % 256 = (((byteOf x i).toNat : Nat) : Int) := by
    unfold byteOf
    rw [UInt8.toNat_ofNat']
    omega
  rw [e, u8_xor_nat _ _ a.toNat_lt (byteOf x i).toNat_lt, UInt8.toNat_xor]
theorem byteOf_zero (x : Int) (h0 : byteOf x 0 = 0) (h1 : byteOf x 1 = 0) (h2 : byteOf x 2 = 0) (h3 : byteOf x 3 = 0) : x % 4294967296 = 0 := by
  have z (n : Nat) (h : UInt8.ofNat n = 0) (hn : n < 256) : n = 0 := by
    have := congrArg UInt8.toNat h
    rw [UInt8.toNat_ofNat'] at this
    simp at this
    omega
  unfold byteOf at h0 h1 h2 h3
  have g0 := z _ h0 (by omega)
  have g1 := z _ h1 (by omega)
  have g2 := z _ h2 (by omega)
  have g3 := z _ h3 (by omega)
  simp at g0 g1 g2 g3
  omega
theorem row_new (w : World) (s : ByteArray) (cap : Nat) (fr : Nat × Nat) (hfr : s.size ≤ fr.1) : Row (w.alloc (.cells (bytesRow s cap) 5 fr)).drew w.heap.size s.data.toList := by
  intro j hj
  have hj' : j < s.size := by simpa using hj
  have hh : (w.alloc (.cells (bytesRow s cap) 5 fr)).drew.heap[w.heap.size]? = some (.cells (bytesRow s cap) 5 fr) := heap_alloc_new w _
  constructor
  · rw [cell_of_row _ _ _ _ _ _ hh]
    simp [bytesRow, Array.getElem?_append, hj', List.getD]
  · unfold World.frozen?
    simp only [hh]
    simp
    omega
theorem Row.below {w w' : World} {g B : Nat} {l : List UInt8} (h : Row w g l) (hb : Below B w w') (hg : g < B) : Row w' g l :=
  fun j hj => ⟨(hb.cell (p := ⟨g, j, none⟩) hg).trans (h j hj).1, (hb.frozen (p := ⟨g, j, none⟩) hg).trans (h j hj).2⟩
theorem Row.text {w : World} {g : Nat} {l : List UInt8} (h : Row w g l) (cap : Nat) : (convert 36 9 (.slice (some ⟨g, 0, none⟩) l.length cap)).run Try.prog w = .ok (.string ⟨l.toArray⟩) w := by
  apply run_convert_bytes_back w 36 9 5 ⟨g, 0, none⟩ cap l Try.underlying36 Try.underlying5 Try.underlying9
  intro j hj
  have := (h j hj).1
  rw [List.getD, List.getElem?_eq_getElem hj] at this
  have e : (⟨g, 0, none⟩ : Addr).add j = ⟨g, j, none⟩ := by unfold Addr.add; split <;> simp_all
  rw [e]; exact this
end Go.Proofs.Ytfjjckimgcofnaa
