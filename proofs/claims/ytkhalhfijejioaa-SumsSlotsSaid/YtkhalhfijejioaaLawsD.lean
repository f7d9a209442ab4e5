/-
  The walk of the law SumsSlots: the call returns true and writes nothing that was there, at every string.
-/
import Derived.Test.YtkhalhfijejioaaLawsB
import Derived.Laws.MakeOwn
import Derived.Deep.Cut
import Derived.Deep.CutRange
namespace Go.Proofs.Ytkhalhfijejioaa
open Go.RowKit

/-- the slot of the i-th channel behind the state h -/
def slotAt (h i : Nat) : Nat := Slots.fours (Slots.step (Slots.step h (97 + i % 16)) (97 + i / 16))
/-- of the first m channels so many have the slot j -/
def count (h j : Nat) : Nat → Nat
  | 0 => 0
  | i + 1 => count h j i + if slotAt h i = j then 1 else 0
theorem count_le (h j m : Nat) : count h j m ≤ m := by
  induction m with
  | zero => exact Nat.le_refl 0
  | succ m ih => simp only [count]; split <;> omega
theorem count_lt (h j i m : Nat) (hi : i < m) (hne : slotAt h i ≠ j) : count h j m < m := by
  induction m with
  | zero => omega
  | succ m ih =>
    simp only [count]
    by_cases e : i = m
    · subst e; rw [if_neg hne]; have := count_le h j i; omega
    · have := ih (by omega); split <;> omega
theorem count_most (h j : Nat) : count h j 256 < 256 := by
  obtain ⟨i, hi, hne⟩ := Slots.not_all (Slots.step h 97) j
  refine count_lt h j (16 * i) 256 (by omega) ?_
  unfold slotAt
  rw [show 16 * i % 16 = 0 by omega, show 16 * i / 16 = i by omega]
  exact hne
theorem slot_text (l : List UInt8) (i : Nat) (hi : i < 256) :
    Slots.slot (l ++ [47] ++ [UInt8.ofNat (97 + i % 16), UInt8.ofNat (97 + i / 16)]) = slotAt (Slots.hash 2166136261 (l ++ [47])) i := by
  unfold Slots.slot slotAt
  rw [Slots.hash_append]
  simp only [Slots.hash]
  rw [show (UInt8.ofNat (97 + i % 16)).toNat = 97 + i % 16 by rw [UInt8.toNat_ofNat']; omega, show (UInt8.ofNat (97 + i / 16)).toNat = 97 + i / 16 by rw [UInt8.toNat_ofNat']; omega]

/-- the sixteen numbers -/
def Counts (w : World) (g h m : Nat) : Prop := ∀ j, j < 16 → w.cell? ⟨g, j, none⟩ = some (.int .i64 (count h j m)) ∧ w.frozen? ⟨g, j, none⟩ = false

theorem info3 : (Try.prog.info? 3).map (fun i => (i.zero, i.size, i.bytes)) = some (some (.int .i64 0), 1, 8) := by kernel_rfl
def sixteen : Array Value := madeCells #[.int .i64 0] (16 * 1)
theorem make_sixteen (W : World) :
    (Instr.makeSlice 28 (.int .i64 16) (.int .i64 16)).run Try.prog W = .ok (.slice (some ⟨W.heap.size, 0, none⟩) 16 16) (W.alloc (.cells sixteen 3)) := by
  obtain ⟨i0, hi, hz0, hz1, hz2⟩ := info_parts info3
  have := run_make (P := Try.prog) W 28 3 i0 (.int .i64 0) Try.underlying28 hi hz0 .i64 .i64 16 16 (by omega) (by omega) (by rw [hz2]; omega) (by omega)
  rw [hz1] at this
  exact this

theorem two_bytes (W : World) (x y : Nat) (hx : x < 16) (hy : y < 16) :
    (convert 25 9 (.slice (some ⟨W.heap.size, 0, none⟩) 2 2)).run Try.prog (W.alloc (.cells #[.int .u8 (97 + (x : Int)), .int .u8 (97 + (y : Int))] 5)) =
      .ok (.string ⟨#[UInt8.ofNat (97 + x), UInt8.ofNat (97 + y)]⟩) (W.alloc (.cells #[.int .u8 (97 + (x : Int)), .int .u8 (97 + (y : Int))] 5)) := by
  have hr : Row (W.alloc (.cells #[.int .u8 (97 + (x : Int)), .int .u8 (97 + (y : Int))] 5)) W.heap.size [UInt8.ofNat (97 + x), UInt8.ofNat (97 + y)] := by
    intro j hj
    constructor
    · rw [cell_of_row _ _ _ _ _ _ (heap_alloc_new W _)]
      have e (z : Nat) (hz : z < 16) : ((UInt8.ofNat (97 + z)).toNat : Int) = 97 + z := by rw [UInt8.toNat_ofNat']; omega
      match j, hj with
      | 0, _ => simp only [List.getD]; simp only [List.getElem?_cons_zero, Option.getD_some]; rw [e x hx]; rfl
      | 1, _ => simp only [List.getD]; simp only [List.getElem?_cons_succ, List.getElem?_cons_zero, Option.getD_some]; rw [e y hy]; rfl
    · exact frozen_of_row _ _ _ _ _ (heap_alloc_new W _)
  exact hr.text 2
theorem Counts.below {w w' : World} {g B h m : Nat} (hc : Counts w g h m) (hb : Below B w w') (hg : g < B) : Counts w' g h m :=
  fun j hj => ⟨(hb.cell (p := ⟨g, j, none⟩) hg).trans (hc j hj).1, (hb.frozen (p := ⟨g, j, none⟩) hg).trans (hc j hj).2⟩
theorem Counts.next {w : World} {g h m v : Nat} (hc : Counts w g h m) (hv : slotAt h m = v) : Counts (w.setCell ⟨g, v, none⟩ (.int .i64 ((count h v m : Int) + 1))) g h (m + 1) := by
  intro j hj
  refine ⟨?_, by rw [World.frozen?_setCell]; exact (hc j hj).2⟩
  by_cases e : v = j
  · subst e
    rw [World.cell?_setCell_same (h := (hc v hj).1)]
    simp only [count, hv, if_true]
    rfl
  · rw [World.cell?_setCell_other (h := fun h => e (by injection h)), (hc j hj).1]
    simp only [count, hv, if_neg e, Nat.add_zero]

theorem two_more {w : World} {g h m : Nat} (hc : Counts w g h m) (hg : g < w.heap.size) (o o' : Obj) : Counts ((w.alloc o).alloc o') g h m :=
  (hc.below ((Below.refl _ _).alloc (Nat.le_refl _) o) hg).below ((Below.refl _ _).alloc (Nat.le_refl _) o') (by simp; omega)
theorem size_one {w : World} {g : Nat} {o : Obj} (h : g < w.heap.size) : g ≤ (w.alloc o).heap.size := by simp; omega
theorem size_more {w : World} {g : Nat} (h : g < w.heap.size) (o o' : Obj) : g < ((w.alloc o).alloc o').heap.size := by simp; omega

set_option maxRecDepth 100000 in
set_option maxHeartbeats 1600000 in
theorem slots_main (s : ByteArray) (hs : s.size ≤ 40) (w : World) :
    Calls Try.prog 7 #[.string s] w fun e w' => e = .returned (.bool true) ∧ Below w.heap.size w w' := by
  have hmk := make_sixteen
  go_enter Try.func7, Try.ntmps7
  go_wp2_with fail
  have hcnt : Counts (w.alloc (.cells sixteen 3)) w.heap.size (Slots.hash 2166136261 (s.data.toList ++ [47])) 0 := by
    intro j hj
    constructor
    · rw [cell_of_row _ _ _ _ _ _ (heap_alloc_new w _)]
      simp [sixteen, madeCells, hj, count, Nat.mod_one]
    · exact frozen_of_row _ _ _ _ _ (heap_alloc_new w _)
  have hbel := (Below.refl w.heap.size w).alloc (Nat.le_refl _) (.cells sixteen 3)
  have hsz : w.heap.size < (w.alloc (.cells sixteen 3)).heap.size := by simp
  generalize w.alloc (.cells sixteen 3) = w1 at *
  clear hmk
  go_loopw [4] (fun i wr => ∃ k : Nat, k ≤ 256 ∧ i = .int .i64 k ∧ Counts wr w.heap.size (Slots.hash 2166136261 (s.data.toList ++ [47])) k ∧ Below w.heap.size w wr ∧ w.heap.size < wr.heap.size) (fun i _ => 256 - (intOf i).toNat)
  case atStart => exact ⟨0, by omega, rfl, hcnt, hbel, hsz⟩
  case round =>
    clear hcnt hbel hsz
    obtain ⟨k, hk, rfl, hcnt, hbel, hsz⟩ := hrel
    by_cases hkn : k < 256
    · have fa : bits .and .i64 (k : Int) 15 = ((k % 16 : Nat) : Int) := by
        have := i64_and_nat k 15 (by omega) (by decide)
        rw [nat_mask4] at this; exact this
      have fb : (k : Int) / 16 = ((k / 16 : Nat) : Int) := by omega
      have htext := slot_text s.data.toList k hkn
      have hx : k % 16 < 16 := Nat.mod_lt _ (by decide)
      have hy : k / 16 < 16 := by omega
      have hconv := fun W => two_bytes W (k % 16) (k / 16) hx hy
      have hv : slotAt (Slots.hash 2166136261 (s.data.toList ++ [47])) k < 16 := Slots.fours_lt _
      have hc := count_le (Slots.hash 2166136261 (s.data.toList ++ [47])) (slotAt (Slots.hash 2166136261 (s.data.toList ++ [47])) k) k
      have hnext := fun W (h : Counts W w.heap.size (Slots.hash 2166136261 (s.data.toList ++ [47])) k) => h.next rfl
      generalize slotAt (Slots.hash 2166136261 (s.data.toList ++ [47])) k = v at *
      obtain ⟨c, hCo⟩ : ∃ c, count (Slots.hash 2166136261 (s.data.toList ++ [47])) v k = c := ⟨_, rfl⟩
      rw [hCo] at hc
      have hCH := Lib.hid hCo
      clear hCo
      have HN := Lib.hid hnext
      have HT := Lib.hid htext
      clear htext hnext
      generalize UInt8.ofNat (97 + k % 16) = a at *
      generalize UInt8.ofNat (97 + k / 16) = b at *
      generalize k % 16 = x at *
      generalize k / 16 = y at *
      have hdata : (s ++ ⟨#[47]⟩ ++ ⟨#[a, b]⟩ : ByteArray).data.toList = s.data.toList ++ [47] ++ [a, b] := by
        simp
      have hsize : (s ++ ⟨#[47]⟩ ++ ⟨#[a, b]⟩ : ByteArray).size ≤ maxLen := by
        have : (s ++ ⟨#[47]⟩ ++ ⟨#[a, b]⟩ : ByteArray).size = s.size + 1 + 2 := by simp; rfl
        rw [this]; unfold maxLen; omega
      have cS : ∀ W, Calls Try.prog 11 #[.string (s ++ ⟨#[47]⟩ ++ ⟨#[a, b]⟩)] W fun e w' => e = .returned (.int .i64 (v : Int)) ∧ W = w' := by
        intro W
        have := slot_any _ W hsize
        rw [hdata, HT.out] at this
        exact this
      have cR : ∀ W, Calls Try.prog 12 #[.string (s ++ ⟨#[47]⟩ ++ ⟨#[a, b]⟩)] W fun e w' => e = .returned (.int .i64 (v : Int)) ∧ W = w' := by
        intro W
        have := refslot_any _ W hsize
        rw [hdata, HT.out] at this
        exact this
      have hconv2 : ∀ (W : World) (o : Obj), (convert 25 9 (.slice (some ⟨W.heap.size + 1, 0, none⟩) 2 2)).run Try.prog ((W.alloc o).alloc (.cells #[.int .u8 (97 + (x : Int)), .int .u8 (97 + (y : Int))] 5)) =
          .ok (.string ⟨#[a, b]⟩) ((W.alloc o).alloc (.cells #[.int .u8 (97 + (x : Int)), .int .u8 (97 + (y : Int))] 5)) := by
        intro W o
        have := hconv (W.alloc o)
        rw [World.size_alloc] at this
        exact this
      have CS := Lib.hid cS
      have CR := Lib.hid cR
      clear cS cR hdata hsize HT
      have hd1 : decide ((v : Int) < 0) = false := by simp
      have hd2 : decide ((15 : Int) < v) = false := by simp; omega
      go_wp2_with fail
      refine (CS.out _).mono ?_
      rintro e w1 ⟨rfl, rfl⟩
      go_wp2_with fail
      refine (CR.out _).mono ?_
      rintro e w1 ⟨rfl, rfl⟩
      go_upto_region 10 with (fail)
      have hc2 := two_more hcnt hsz (.cells #[.int .u8 (97 + (x : Int)), .int .u8 (97 + (y : Int))] 5) (.cells #[.int .u8 (97 + (x : Int)), .int .u8 (97 + (y : Int))] 5)
      have hb2 := (hbel.alloc (Nat.le_of_lt hsz) (.cells #[.int .u8 (97 + (x : Int)), .int .u8 (97 + (y : Int))] 5)).alloc (size_one hsz) (.cells #[.int .u8 (97 + (x : Int)), .int .u8 (97 + (y : Int))] 5)
      have hs2 := size_more hsz (.cells #[.int .u8 (97 + (x : Int)), .int .u8 (97 + (y : Int))] 5) (.cells #[.int .u8 (97 + (x : Int)), .int .u8 (97 + (y : Int))] 5)
      generalize (wr.alloc (.cells #[.int .u8 (97 + (x : Int)), .int .u8 (97 + (y : Int))] 5)).alloc (.cells #[.int .u8 (97 + (x : Int)), .int .u8 (97 + (y : Int))] 5) = W2 at *
      clear hcnt hbel hsz hconv hconv2
      obtain ⟨hcell, hfz⟩ := hc2 v hv
      have hvi : (v : Int) < 16 := by omega
      rw [hCH.out] at hcell
      as_aux_lemma =>
        go_wp2_with fail
        go_roundw
        case rel => exact ⟨k + 1, by omega, by go_num, (by have := HN.out _ hc2; rw [hCH.out] at this; exact this), hb2.setCell (Nat.le_refl _) _, by simpa using hs2⟩
        case measure => simp [intOf]; omega
    · obtain rfl : k = 256 := by omega
      go_wp2_with fail
      go_loop [6, 7] (fun c i => ∃ (j m : Nat), j ≤ 16 ∧ m < 256 ∧ i = .int .i64 j ∧ c = .int .i64 m) (fun _ i => 16 - (intOf i).toNat)
      case atStart => exact ⟨0, 0, by omega, by omega, rfl, rfl⟩
      case round =>
        obtain ⟨j, m, hj, hm, rfl, rfl⟩ := hrel
        by_cases hj16 : j < 16
        · obtain ⟨hcell, hfz⟩ := hcnt j hj16
          have hji : (j : Int) < 16 := by omega
          have hc := count_most (Slots.hash 2166136261 (s.data.toList ++ [47])) j
          generalize count (Slots.hash 2166136261 (s.data.toList ++ [47])) j 256 = c at *
          go_wp2_with fail
          go_round
          case rel => exact ⟨j + 1, if m < c then c else m, by omega, by split <;> omega, by go_num, by split <;> rfl⟩
          case measure => simp [intOf]; omega
        · have hmd : decide ((m : Int) < 256) = true := by simp; omega
          go_wp2_with (go_at_call 8; refine (awake_any _).mono ?_; rintro e w1 ⟨rfl, hb⟩)
          go_ret
          exact ⟨rfl, hbel.trans (hb.mono (Nat.le_of_lt hsz))⟩

set_option maxRecDepth 100000 in
/-- SumsSlots returns true -/
theorem lawSlots (s : ByteArray) (_hs : s.size ≤ maxLen) (w : World) :
    Calls Try.prog 7 #[.string s] w fun e w' => e = .returned (.bool true) ∧ Below w.heap.size w w' := by
  by_cases h : s.size ≤ 40
  · exact slots_main s h w
  · have hd2 : decide ((40 : Int) < s.size) = true := by simp; omega
    go_enter Try.func7, Try.ntmps7
    go_wp2_with fail
    refine (awake_any _).mono ?_
    rintro e w2 ⟨rfl, hb2⟩
    go_wp2_with fail
    go_ret
    exact ⟨rfl, hb2⟩
end Go.Proofs.Ytkhalhfijejioaa
