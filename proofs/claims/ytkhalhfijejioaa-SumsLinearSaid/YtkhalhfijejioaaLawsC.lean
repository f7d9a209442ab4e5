/-
  The walk of the law SumsLinear: the call returns true and writes nothing that was there, at every two strings.
-/
import Derived.Test.YtkhalhfijejioaaLawsB
import Derived.Laws.MakeOwn
import Derived.Deep.RegionHeldLaw
namespace Go.Proofs.Ytkhalhfijejioaa
open Go.RowKit

/-- what make([]byte, n) lays -/
def noughts (n : Nat) : Array Value := madeCells #[.int .u8 0] (n * 1)
theorem info5 : (Try.prog.info? 5).map (fun i => (i.zero, i.size, i.bytes)) = some (some (.int .u8 0), 1, 1) := by kernel_rfl
theorem make_bytes (W : World) (n : Nat) (hn : n ≤ 281474976710656) :
    (Instr.makeSlice 25 (.int .i64 n) (.int .i64 n)).run Try.prog W = .ok (.slice (some ⟨W.heap.size, 0, none⟩) n n) (W.alloc (.cells (noughts n) 5)) := by
  obtain ⟨i0, hi, hz0, hz1, hz2⟩ := info_parts info5
  have := run_make (P := Try.prog) W 25 5 i0 (.int .u8 0) Try.underlying25 hi hz0 .i64 .i64 n n (by omega) (by omega) (by rw [hz2]; omega) (by omega)
  rw [hz1] at this
  exact this
theorem row_noughts (W : World) (n : Nat) : Row (W.alloc (.cells (noughts n) 5)) W.heap.size (List.replicate n 0) := by
  intro j hj
  rw [List.length_replicate] at hj
  constructor
  · rw [cell_of_row _ _ _ _ _ _ (heap_alloc_new W _)]
    simp [noughts, madeCells, hj, List.getD, Nat.mod_one]
  · exact frozen_of_row _ _ _ _ _ (heap_alloc_new W _)

/-- the row after k of n bytes -/
def fill (l m : List UInt8) (n : Nat) : Nat → List UInt8
  | 0 => List.replicate n 0
  | k + 1 => (fill l m n k).set k (l.getD k 0 ^^^ m.getD k 0)
theorem fill_length (l m : List UInt8) (n k : Nat) : (fill l m n k).length = n := by
  induction k with
  | zero => simp [fill]
  | succ k ih => simp only [fill, List.length_set, ih]
theorem fill_at (l m : List UInt8) (n : Nat) : ∀ (k j : Nat), j < k → k ≤ n → (fill l m n k)[j]? = some (l.getD j 0 ^^^ m.getD j 0)
  | 0, j, h, _ => absurd h (by omega)
  | k + 1, j, h, hn => by
    simp only [fill]
    by_cases e : k = j
    · subst e; rw [List.getElem?_set_self (by rw [fill_length]; omega)]
    · rw [List.getElem?_set_ne e]; exact fill_at l m n k j (by omega) (by omega)
theorem fill_all (l m : List UInt8) (n : Nat) (hl : n ≤ l.length) (hm : n ≤ m.length) : fill l m n n = List.zipWith (· ^^^ ·) (l.take n) (m.take n) := by
  apply List.ext_getElem?
  intro j
  by_cases hj : j < n
  · have h1 : j < l.length := by omega
    have h2 : j < m.length := by omega
    rw [fill_at l m n n j hj (Nat.le_refl _)]
    simp [List.getElem?_zipWith, hj, h1, h2, List.getD]
  · rw [List.getElem?_eq_none (by rw [fill_length]; omega), List.getElem?_eq_none (by simp; omega)]

theorem lt_alloc (w : World) (o : Obj) : w.heap.size < (w.alloc o).heap.size := by simp
theorem Row.alloc {w : World} {g : Nat} {l : List UInt8} (h : Row w g l) (hg : g < w.heap.size) (o : Obj) : Row (w.alloc o) g l :=
  h.below ((Below.refl _ _).alloc (Nat.le_refl _) o) hg
theorem step0 {wp w1 : World} {B : Nat} (_ : B < wp.heap.size) (hb : Below wp.heap.size wp w1) : Below wp.heap.size wp w1 := hb
theorem step1 {wp w1 : World} {B : Nat} {o : Obj} (_ : B < wp.heap.size) (hb : Below (wp.alloc o).heap.size (wp.alloc o) w1) : Below wp.heap.size wp w1 :=
  ((Below.refl _ _).alloc (Nat.le_refl _) _).trans (hb.mono (by simp))
theorem step2 {wp w1 : World} {B : Nat} {o : Obj} (_ : B < wp.heap.size) (hb : Below (wp.alloc o).drew.heap.size (wp.alloc o).drew w1) : Below wp.heap.size wp w1 :=
  ((Below.refl _ _).alloc (Nat.le_refl _) _).drew.trans (hb.mono (by simp))

set_option maxRecDepth 100000 in
set_option maxHeartbeats 12800000 in
theorem linear_main (s t : ByteArray) (n : Nat) (hs : s.size ≤ maxLen) (_ht : t.size ≤ maxLen) (hns : n ≤ s.size) (hnt : n ≤ t.size) (hn : n ≤ 8192) (hmin : (if t.size < s.size then (t.size : Int) else (s.size : Int)) = (n : Int)) (w : World) :
    Calls Try.prog 6 #[.string s, .string t] w fun e w' => e = .returned (.bool true) ∧ Below w.heap.size w w' := by
  have hmk := fun W => make_bytes W n (by omega)
  unfold maxLen at hs
  have hd : decide (8192 < (n : Int)) = false := by simp; omega
  go_enter Try.func6, Try.ntmps6
  go_wp2_with fail
  have hrow := row_noughts w n
  have hbel := (Below.refl w.heap.size w).alloc (Nat.le_refl _) (.cells (noughts n) 5)
  have hsz : w.heap.size < (w.alloc (.cells (noughts n) 5)).heap.size := by simp
  generalize w.alloc (.cells (noughts n) 5) = w1 at *
  clear hmk
  go_loopw [7] (fun i wr => ∃ k : Nat, k ≤ n ∧ i = .int .i64 k ∧ Row wr w.heap.size (fill s.data.toList t.data.toList n k) ∧ Below w.heap.size w wr ∧ w.heap.size < wr.heap.size) (fun i _ => n - (intOf i).toNat)
  case atStart => exact ⟨0, by omega, rfl, hrow, hbel, hsz⟩
  case round =>
    clear hrow hbel hsz
    obtain ⟨k, hk, rfl, hrow, hbel, hsz⟩ := hrel
    by_cases hkn : k < n
    · obtain ⟨hcell, hfz⟩ := hrow k (by rw [fill_length]; exact hkn)
      have HT : Hid (fill s.data.toList t.data.toList n (k + 1) = (fill s.data.toList t.data.toList n k).set k (s.data.toList.getD k 0 ^^^ t.data.toList.getD k 0)) := rfl
      have hks : k < s.size := by omega
      have hkt : k < t.size := by omega
      have HS : Hid (s.data.toList.getD k 0 = s[k]) := by unfold Hid; rw [List.getD, List.getElem?_eq_getElem (by simpa using hks)]; rfl
      have HU : Hid (t.data.toList.getD k 0 = t[k]) := by unfold Hid; rw [List.getD, List.getElem?_eq_getElem (by simpa using hkt)]; rfl
      generalize (fill s.data.toList t.data.toList n k).getD k 0 = x at hcell
      go_wp2_with fail
      go_region
      all_goals
        go_wp2_with fail
        go_roundw
        case rel =>
          refine ⟨k + 1, by omega, by go_num, ?_, (hbel.setCell (Nat.le_refl _) _).drew, by simpa using hsz⟩
          rw [HT.out, u8_xor_nat _ _ s[k].toNat_lt t[k].toNat_lt, ← UInt8.toNat_xor, ← HS.out, ← HU.out]
          exact (hrow.set _ _).drew
        case measure => simp [intOf]; omega
    · obtain rfl : k = n := by omega
      have hfull := fill_all s.data.toList t.data.toList k (by simpa using hns) (by simpa using hnt)
      rw [hfull] at hrow
      clear hfull
      have hmk := fun W => make_bytes W k (by omega)
      obtain ⟨X, hX⟩ : ∃ X, X = List.zipWith (· ^^^ ·) (s.data.toList.take k) (t.data.toList.take k) := ⟨_, rfl⟩
      rw [← hX] at hrow
      have HX := Lib.hid hX
      have hXl : X.length = k := by rw [hX]; simp; omega
      clear hX
      obtain ⟨Z, hZ⟩ : ∃ Z, Z = List.replicate k (0 : UInt8) := ⟨_, rfl⟩
      have hzn : ∀ W : World, Row (W.alloc (.cells (noughts k) 5)) W.heap.size Z := fun W => by rw [hZ]; exact row_noughts W k
      have hzd : ∀ W : World, Row (W.alloc (.cells (noughts k) 5)).drew W.heap.size Z := hzn
      have hZl : Z.length = k := by rw [hZ]; simp
      have HZ := Lib.hid hZ
      clear hZ
      have hback : ∀ W : World, Row W w.heap.size X → (convert 25 9 (.slice (some ⟨w.heap.size, 0, none⟩) k k)).run Try.prog W = .ok (.string ⟨X.toArray⟩) W := by
        intro W h
        have := h.text k
        rw [hXl] at this
        exact this
      have hback0 : ∀ (W : World) (g : Nat), Row W g Z → (convert 25 9 (.slice (some ⟨g, 0, none⟩) k k)).run Try.prog W = .ok (.string ⟨Z.toArray⟩) W := by
        intro W g h
        have := h.text k
        rw [hZl] at this
        exact this
      have hs1 : (s.extract 0 k).size ≤ maxLen := by unfold maxLen; rw [ByteArray.size_extract]; omega
      have ht1 : (t.extract 0 k).size ≤ maxLen := by unfold maxLen; rw [ByteArray.size_extract]; omega
      have hx1 : (ByteArray.mk X.toArray).size ≤ maxLen := by unfold maxLen; show X.toArray.size ≤ _; rw [List.size_toArray, hXl]; omega
      have hz1 : (ByteArray.mk Z.toArray).size ≤ maxLen := by unfold maxLen; show Z.toArray.size ≤ _; rw [List.size_toArray, hZl]; omega
      clear hXl hZl hmin hd
      have e1 := Crc.crc_lt (s.data.toList.take k)
      have e2 := Crc.crc_lt (t.data.toList.take k)
      have e3 := Crc.crc_lt Z
      have e4 : Crc.crc (s.data.toList.take k) ^^^ Crc.crc (t.data.toList.take k) < 4294967296 := Nat.xor_lt_two_pow (n := 32) e1 e2
      have f1 := i64_xor_nat (Crc.crc (s.data.toList.take k)) (Crc.crc (t.data.toList.take k)) (by omega) (by omega)
      have f2 := i64_xor_nat (Crc.crc (s.data.toList.take k) ^^^ Crc.crc (t.data.toList.take k)) (Crc.crc Z) (by omega) (by omega)
      have f3 : (Crc.crc X == Crc.crc (s.data.toList.take k) ^^^ Crc.crc (t.data.toList.take k) ^^^ Crc.crc Z) = true := by
        have hl := Crc.linear (s.data.toList.take k) (t.data.toList.take k) (by simp; omega)
        rw [beq_iff_eq, HX.out, HZ.out, hl]
        congr 3
        simp; omega
      have f4 : (((Crc.crc X : Nat) : Int) == ((Crc.crc (s.data.toList.take k) ^^^ Crc.crc (t.data.toList.take k) ^^^ Crc.crc Z : Nat) : Int)) = true := by
        rw [beq_iff_eq] at f3 ⊢
        rw [f3]
      clear e1 e2 e3 e4
      go_wp2_with fail
      replace hrow := hrow.drew
      replace hbel := hbel.drew
      replace hsz : w.heap.size < wr.drew.heap.size := hsz
      clear HX HZ hn hk hkn
      go_region_held_law (fun w' => Row w' w.heap.size X) (first | exact hrow | exact hrow.alloc hsz _ | exact (hrow.alloc hsz _).drew) (first
        | (go_at_call 9; refine (crc_any _ _ (by assumption)).mono ?_; rintro e w1 ⟨rfl, hb⟩; (first | (have hz := Row.below hz hb hzs; have hzs := Nat.lt_of_lt_of_le hzs hb.size) | (have hz := Row.below (hzn _) hb (lt_alloc _ _); have hzs := Nat.lt_of_lt_of_le (lt_alloc _ _) hb.size) | (have hz := Row.below (hzd _) hb (lt_alloc _ _); have hzs := Nat.lt_of_lt_of_le (lt_alloc _ _) hb.size) | skip); (first | (have hc := step0 hsz hb) | (have hc := step1 hsz hb) | (have hc := step2 hsz hb)); have hrow := hrow.below hc hsz; have hbel := hbel.trans (hc.mono (Nat.le_of_lt hsz)); have hsz := Nat.lt_of_lt_of_le hsz hc.size; clear hb hc)
        | (go_at_call 8; refine (awake_any _).mono ?_; rintro e w1 ⟨rfl, hb⟩; have hrow := hrow.below hb hsz; have hbel := hbel.trans (hb.mono (Nat.le_of_lt hsz)); have hsz := Nat.lt_of_lt_of_le hsz hb.size; clear hb))
      all_goals
        go_wp2_with fail
        go_ret
        exact ⟨rfl, hbel⟩

set_option maxRecDepth 100000 in
/-- SumsLinear returns true -/
theorem lawLinear (s t : ByteArray) (hs : s.size ≤ maxLen) (ht : t.size ≤ maxLen) (w : World) :
    Calls Try.prog 6 #[.string s, .string t] w fun e w' => e = .returned (.bool true) ∧ Below w.heap.size w w' := by
  have main (n : Nat) (hns : n ≤ s.size) (hnt : n ≤ t.size) (hmin : (if t.size < s.size then (t.size : Int) else (s.size : Int)) = (n : Int)) :
      Calls Try.prog 6 #[.string s, .string t] w fun e w' => e = .returned (.bool true) ∧ Below w.heap.size w w' := by
    by_cases h : n ≤ 8192
    · exact linear_main s t n hs ht hns hnt h hmin w
    · have hd2 : decide ((8192 : Int) < n) = true := by simp; omega
      go_enter Try.func6, Try.ntmps6
      go_wp2_with fail
      refine (awake_any _).mono ?_
      rintro e w2 ⟨rfl, hb2⟩
      go_wp2_with fail
      go_ret
      exact ⟨rfl, hb2⟩
  by_cases h : t.size < s.size
  · exact main t.size (by omega) (Nat.le_refl _) (if_pos h)
  · exact main s.size (Nat.le_refl _) (by omega) (if_neg h)
end Go.Proofs.Ytkhalhfijejioaa
