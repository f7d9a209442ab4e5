/-
  The walk of the law SumsBurst: the call returns true and writes nothing that was there, at every string and every two integers of 64 bits.
-/
import Derived.Test.YtkhalhfijejioaaAwake
import Derived.Laws.IdiomStrings
import Derived.RegionTactic
import Derived.BigRegion
import Derived.RegionCalls
import Derived.Deep.RegionWith
import Derived.Deep.LoopGhost
import Derived.Laws.IdiomStrings
import Derived.Deep.DeepCutAuto
import Derived.OpenShut
namespace Go.Proofs.Ytkhalhfijejioaa
open Go.RowKit

/-- the bytes with i of four turned -/
def turned (l : List UInt8) (K : Nat) (E : Nat → UInt8) : Nat → List UInt8
  | 0 => l
  | i + 1 => (turned l K E i).set (K + i) (l.getD (K + i) 0 ^^^ E i)
theorem turned_length (l : List UInt8) (K : Nat) (E : Nat → UInt8) (i : Nat) : (turned l K E i).length = l.length := by
  induction i with
  | zero => rfl
  | succ i ih => simp only [turned, List.length_set, ih]
theorem turned_at (l : List UInt8) (K : Nat) (E : Nat → UInt8) (i j : Nat) (hj : K + i ≤ j) : (turned l K E i)[j]? = l[j]? := by
  induction i with
  | zero => rfl
  | succ i ih => simp only [turned]; rw [List.getElem?_set_ne (by omega), ih (by omega)]
theorem turned_told (l : List UInt8) (K : Nat) (E : Nat → UInt8) (hK : K + 4 ≤ l.length) (h : Crc.crc l = Crc.crc (turned l K E 4)) : E 0 = 0 ∧ E 1 = 0 ∧ E 2 = 0 ∧ E 3 = 0 := by
  obtain ⟨p, a0, a1, a2, a3, q, hp, rfl⟩ : ∃ p a0 a1 a2 a3 q, p.length = K ∧ l = p ++ a0 :: a1 :: a2 :: a3 :: q := by
    refine ⟨l.take K, l[K], l[K + 1], l[K + 2], l[K + 3], l.drop (K + 4), by simp; omega, ?_⟩
    rw [← List.drop_eq_getElem_cons, ← List.drop_eq_getElem_cons, ← List.drop_eq_getElem_cons, ← List.drop_eq_getElem_cons, List.take_append_drop]
  subst hp
  have e : turned (p ++ a0 :: a1 :: a2 :: a3 :: q) p.length E 4 = p ++ (a0 ^^^ E 0) :: (a1 ^^^ E 1) :: (a2 ^^^ E 2) :: (a3 ^^^ E 3) :: q := by
    simp [turned, List.getD]
  rw [e] at h
  have := Crc.burst p q _ _ _ _ _ _ _ _ h
  have z (a b : UInt8) (h : a = a ^^^ b) : b = 0 := by
    have h2 : a ^^^ a = a ^^^ (a ^^^ b) := by rw [← h]
    rw [UInt8.xor_self, ← UInt8.xor_assoc, UInt8.xor_self, UInt8.zero_xor] at h2
    exact h2.symm
  exact ⟨z _ _ this.1, z _ _ this.2.1, z _ _ this.2.2.1, z _ _ this.2.2.2⟩

/-- a row of bytes: cells of block g, none frozen -/
def Row (w : World) (g : Nat) (l : List UInt8) : Prop := ∀ j, j < l.length → w.cell? ⟨g, j, none⟩ = some (.int .u8 (l.getD j 0).toNat) ∧ w.frozen? ⟨g, j, none⟩ = false

theorem i64_and255 (n : Int) : bits .and .i64 n 255 = n % 256 := by
  have h127 : (BitVec.ofInt 64 255).toNat = 2 ^ 8 - 1 := by decide
  have key : (BitVec.ofInt 64 n &&& BitVec.ofInt 64 255).toNat = (n % ((2 ^ 64 : Nat) : Int)).toNat % 2 ^ 8 := by
    rw [BitVec.toNat_and, BitVec.toNat_ofInt, h127, Nat.and_two_pow_sub_one_eq_mod]
  show IntKind.i64.wrap ((BitVec.ofInt 64 n &&& BitVec.ofInt 64 255).toNat : Nat) = n % 256
  rw [key, IntKind.wrap_i64]
  omega
theorem i64_and32 (n : Int) : bits .and .i64 n 4294967295 = n % 4294967296 := by
  have h127 : (BitVec.ofInt 64 4294967295).toNat = 2 ^ 32 - 1 := by decide
  have key : (BitVec.ofInt 64 n &&& BitVec.ofInt 64 4294967295).toNat = (n % ((2 ^ 64 : Nat) : Int)).toNat % 2 ^ 32 := by
    rw [BitVec.toNat_and, BitVec.toNat_ofInt, h127, Nat.and_two_pow_sub_one_eq_mod]
  show IntKind.i64.wrap ((BitVec.ofInt 64 n &&& BitVec.ofInt 64 4294967295).toNat : Nat) = n % 4294967296
  rw [key, IntKind.wrap_i64]
  omega


theorem Row.set {w : World} {g : Nat} {l : List UInt8} (h : Row w g l) (i : Nat) (y : UInt8) : Row (w.setCell ⟨g, i, none⟩ (.int .u8 y.toNat)) g (l.set i y) := by
  intro j hj
  rw [List.length_set] at hj
  obtain ⟨h1, h2⟩ := h j hj
  refine ⟨?_, by rw [World.frozen?_setCell]; exact h2⟩
  by_cases e : i = j
  · subst e
    rw [World.cell?_setCell_same (h := h1), List.getD, List.getElem?_set_self hj]
    rfl
  · rw [World.cell?_setCell_other (h := fun h => e (by injection h)), h1, List.getD, List.getD, List.getElem?_set_ne e]
theorem Row.drew {w : World} {g : Nat} {l : List UInt8} (h : Row w g l) : Row w.drew g l := h
/-- the i-th byte of a number -/
def byteOf (x : Int) (i : Nat) : UInt8 := UInt8.ofNat ((x / 2 ^ (8 * i)) % 256).toNat
theorem byteOf_bits (a : UInt8) (x : Int) (i : Nat) : bits .xor .u8 (a.toNat : Int) (bits .and .i64 (x / 2 ^ (8 * i)) 255 % 256) = (((a ^^^ byteOf x i).toNat : Nat) : Int) := by
  rw [i64_and255]
  have e : x / 2 ^ (8 * i) % 256 % 256 = (((byteOf x i).toNat : Nat) : Int) := by
    unfold byteOf
    rw [UInt8.toNat_ofNat']
    omega
  rw [e, u8_xor_nat _ _ a.toNat_lt (byteOf x i).toNat_lt, UInt8.toNat_xor]
theorem byteOf_zero (x : Int) (h0 : byteOf x 0 = 0) (h1 : byteOf x 1 = 0) (h2 : byteOf x 2 = 0) (h3 : byteOf x 3 = 0) : x % 4294967296 = 0 := by
  have z (n : Nat) (h : UInt8.ofNat n = 0) (hn : n < 256) : n = 0 := by
    have := congrArg UInt8.toNat h
    rw [UInt8.toNat_ofNat'] at this
    simp at this
    omega
  unfold byteOf at h0 h1 h2 h3
  have g0 := z _ h0 (by omega)
  have g1 := z _ h1 (by omega)
  have g2 := z _ h2 (by omega)
  have g3 := z _ h3 (by omega)
  simp at g0 g1 g2 g3
  omega
theorem row_new (w : World) (s : ByteArray) (cap : Nat) (fr : Nat × Nat) (hfr : s.size ≤ fr.1) : Row (w.alloc (.cells (bytesRow s cap) 5 fr)).drew w.heap.size s.data.toList := by
  intro j hj
  have hj' : j < s.size := by simpa using hj
  have hh : (w.alloc (.cells (bytesRow s cap) 5 fr)).drew.heap[w.heap.size]? = some (.cells (bytesRow s cap) 5 fr) := heap_alloc_new w _
  constructor
  · rw [cell_of_row _ _ _ _ _ _ hh]
    simp [bytesRow, Array.getElem?_append, hj', List.getD]
  · unfold World.frozen?
    simp only [hh]
    simp
    omega
theorem Row.below {w w' : World} {g B : Nat} {l : List UInt8} (h : Row w g l) (hb : Below B w w') (hg : g < B) : Row w' g l :=
  fun j hj => ⟨(hb.cell (p := ⟨g, j, none⟩) hg).trans (h j hj).1, (hb.frozen (p := ⟨g, j, none⟩) hg).trans (h j hj).2⟩
theorem Row.text {w : World} {g : Nat} {l : List UInt8} (h : Row w g l) (cap : Nat) : (convert 25 9 (.slice (some ⟨g, 0, none⟩) l.length cap)).run Try.prog w = .ok (.string ⟨l.toArray⟩) w := by
  apply run_convert_bytes_back w 25 9 5 ⟨g, 0, none⟩ cap l Try.underlying25 Try.underlying5 Try.underlying9
  intro j hj
  have := (h j hj).1
  rw [List.getD, List.getElem?_eq_getElem hj] at this
  have e : (⟨g, 0, none⟩ : Addr).add j = ⟨g, j, none⟩ := by unfold Addr.add; split <;> simp_all
  rw [e]; exact this

set_option maxRecDepth 100000 in
set_option maxHeartbeats 1600000 in
theorem burst_main (s : ByteArray) (at_ by_ m : Int) (K : Nat) (hs4 : 4 ≤ s.size) (hs : s.size ≤ 4096)
    (hm : at_.tmod (s.size - 3) = m) (hm0 : -9223372036854775807 ≤ m) (hm1 : m ≤ 9223372036854775807) (hmK : m < 0 → -m = K) (hmK2 : ¬ m < 0 → m = K) (hK : K + 4 ≤ s.size)
    (hby : (bits .and .i64 by_ 4294967295 == 0) = false) (w : World) :
    Calls Try.prog 5 #[.string s, .int .i64 at_, .int .i64 by_] w fun e w' => e = .returned (.bool true) ∧ Below w.heap.size w w' := by
  have HK := Lib.hid hmK
  have HK2 := Lib.hid hmK2
  have hd1 : decide ((s.size : Int) < 4) = false := by simp; omega
  have hd2 : decide ((4096 : Int) < s.size) = false := by simp; omega
  clear hmK hmK2
  go_enter Try.func5, Try.ntmps5
  go_upto_if 30 with (fail)
  go_cut [7] (fun v wx => v = .int .i64 K ∧ w = wx)
  case first =>
    by_cases hneg : m < 0
    · go_wp2_with fail
      go_meet
      exact ⟨i64_eq (HK.out hneg), rfl⟩
    · go_wp2_with fail
      go_meet
      exact ⟨i64_eq (HK2.out hneg), rfl⟩
  case rest =>
  obtain ⟨rfl, rfl⟩ := hcut
  clear hm HK HK2
  have hconv := run_bytes_of_string (P := Try.prog) w 9 25 5 s Try.underlying9 Try.underlying25 Try.underlying5
  go_wp2_with fail
  clear hconv
  obtain ⟨w1, hw1⟩ : ∃ w1, w1 = (w.alloc (Obj.cells (bytesRow s (grownCap w s.size 0 5)) 5 ((bytesRow s (grownCap w s.size 0 5)).size, (bytesRow s (grownCap w s.size 0 5)).size + 1))).drew := ⟨_, rfl⟩
  rw [← hw1]
  have hrow : Row w1 w.heap.size (turned s.data.toList K (byteOf by_) 0) := by
    subst hw1
    exact row_new w s _ _ (by simp [bytesRow])
  have hbel : Below w.heap.size w w1 := by subst hw1; exact ((Below.refl _ _).alloc (Nat.le_refl _) _).drew
  have hsz : w1.heap.size = w.heap.size + 1 := by subst hw1; simp
  clear hw1
  generalize hc : grownCap w s.size 0 5 = cap at *
  clear hc
  go_loopw [9] (fun i wr => ∃ k : Nat, k ≤ 4 ∧ i = .int .i64 k ∧ Row wr w.heap.size (turned s.data.toList K (byteOf by_) k) ∧ Below w.heap.size w wr ∧ w.heap.size < wr.heap.size) (fun i _ => 4 - (intOf i).toNat)
  case atStart => exact ⟨0, by omega, rfl, hrow, hbel, by omega⟩
  case round =>
    clear hrow hbel hsz
    obtain ⟨k, hk, rfl, hrow, hbel, hsz⟩ := hrel
    by_cases hk4 : k < 4
    · obtain ⟨hcell, hfz⟩ := hrow (K + k) (by rw [turned_length]; simp; omega)
      have hx : (turned s.data.toList K (byteOf by_) k).getD (K + k) 0 = s.data.toList.getD (K + k) 0 := by
        rw [List.getD, turned_at _ _ _ _ _ (Nat.le_refl _), List.getD]
      have HT : Hid (turned s.data.toList K (byteOf by_) (k + 1) = (turned s.data.toList K (byteOf by_) k).set (K + k) (s.data.toList.getD (K + k) 0 ^^^ byteOf by_ k)) := rfl
      rw [hx] at hcell
      clear hx
      generalize s.data.toList.getD (K + k) 0 = x at *
      go_wp2_with fail
      go_region
      all_goals
        go_wp2_with fail
        go_roundw
        case rel =>
          refine ⟨k + 1, by omega, by go_num, ?_, (hbel.setCell (Nat.le_refl _) _).drew, by simpa using hsz⟩
          rw [HT.out, byteOf_bits]
          exact (hrow.set _ _).drew
        case measure => simp [intOf]; omega
    · obtain rfl : k = 4 := by omega
      have hlen : (turned s.data.toList K (byteOf by_) 4).length = s.size := by rw [turned_length]; simp
      have hne : Hid (Crc.crc s.data.toList ≠ Crc.crc (turned s.data.toList K (byteOf by_) 4)) := by
        intro h
        obtain ⟨e0, e1, e2, e3⟩ := turned_told _ _ _ (by simpa using hK) h
        have := byteOf_zero _ e0 e1 e2 e3
        rw [i64_and32, this] at hby
        simp at hby
      generalize turned s.data.toList K (byteOf by_) 4 = l at *
      have hn1 : ((Crc.crc s.data.toList : Int) == (Crc.crc l : Int)) = false := by
        rw [beq_eq_false_iff_ne]; exact fun h => hne.out (by exact_mod_cast h)
      have hn2 : (Crc.crc s.data.toList == Crc.crc l) = false := by
        rw [beq_eq_false_iff_ne]; exact hne.out
      have hn3 : ((Crc.crc s.data.toList : Int) != (Crc.crc l : Int)) = true := by
        rw [bne_iff_ne]; exact fun h => hne.out (by exact_mod_cast h)
      have hback : ∀ W : World, Row W w.heap.size l → (convert 25 9 (.slice (some ⟨w.heap.size, 0, none⟩) s.size cap)).run Try.prog W = .ok (.string ⟨l.toArray⟩) W := by
        intro W h
        have := h.text cap
        rw [hlen] at this
        exact this
      have hs1 : s.size ≤ maxLen := by unfold maxLen; omega
      have hs2 : (ByteArray.mk l.toArray).size ≤ maxLen := by show l.toArray.size ≤ maxLen; rw [List.size_toArray, hlen]; exact hs1
      clear hlen hby hd1 hd2 hm0 hm1
      go_wp2_with fail
      replace hrow := hrow.drew
      replace hbel := hbel.drew
      replace hsz : w.heap.size < wr.drew.heap.size := hsz
      go_region_with (first
        | (go_at_call 9; refine (crc_any _ _ (by assumption)).mono ?_; rintro e w1 ⟨rfl, hb⟩; have hrow := hrow.below hb hsz; have hbel := hbel.trans (hb.mono (Nat.le_of_lt hsz)); have hsz := Nat.lt_of_lt_of_le hsz hb.size; clear hb)
        | (go_at_call 8; refine (awake_any _).mono ?_; rintro e w1 ⟨rfl, hb⟩; have hbel := hbel.trans (hb.mono (Nat.le_of_lt hsz)); clear hb))
      all_goals
        go_wp2_with fail
        go_ret
        exact ⟨rfl, hbel⟩

set_option maxRecDepth 100000 in
/-- SumsBurst returns true -/
theorem lawBurst (s : ByteArray) (at_ by_ : Int) (_hs : s.size ≤ maxLen) (h1 : (Lit.int .i64 at_).wf = true) (_h2 : (Lit.int .i64 by_).wf = true) (w : World) :
    Calls Try.prog 5 #[.string s, .int .i64 at_, .int .i64 by_] w fun e w' => e = .returned (.bool true) ∧ Below w.heap.size w w' := by
  have b1 := bounds_i64 h1
  by_cases h4 : 4 ≤ s.size
  · by_cases h5 : s.size ≤ 4096
    · by_cases hby : (bits .and .i64 by_ 4294967295 == 0) = true
      · have hd1 : decide ((s.size : Int) < 4) = false := by simp; omega
        have hd2 : decide ((4096 : Int) < s.size) = false := by simp; omega
        go_enter Try.func5, Try.ntmps5
        go_wp2_with fail
        refine (awake_any _).mono ?_
        rintro e w2 ⟨rfl, hb2⟩
        go_wp2_with fail
        go_ret
        exact ⟨rfl, hb2⟩
      · have hlt : (at_.tmod ((s.size : Int) - 3)).natAbs < s.size - 3 := by
          have := Int.natAbs_tmod at_ ((s.size : Int) - 3)
          rw [this]
          have e : ((s.size : Int) - 3).natAbs = s.size - 3 := by omega
          rw [e]
          exact Nat.mod_lt _ (by omega)
        exact burst_main s at_ by_ (at_.tmod ((s.size : Int) - 3)) (at_.tmod ((s.size : Int) - 3)).natAbs h4 h5 rfl (by omega) (by omega) (by omega) (by omega) (by omega) (by simpa using hby) w
    · have hd1 : decide ((s.size : Int) < 4) = false := by simp; omega
      have hd2 : decide ((4096 : Int) < s.size) = true := by simp; omega
      go_enter Try.func5, Try.ntmps5
      go_wp2_with fail
      refine (awake_any _).mono ?_
      rintro e w2 ⟨rfl, hb2⟩
      go_wp2_with fail
      go_ret
      exact ⟨rfl, hb2⟩
  · have hd1 : decide ((s.size : Int) < 4) = true := by simp; omega
    go_enter Try.func5, Try.ntmps5
    go_wp2_with fail
    refine (awake_any _).mono ?_
    rintro e w2 ⟨rfl, hb2⟩
    go_wp2_with fail
    go_ret
    exact ⟨rfl, hb2⟩
end Go.Proofs.Ytkhalhfijejioaa
