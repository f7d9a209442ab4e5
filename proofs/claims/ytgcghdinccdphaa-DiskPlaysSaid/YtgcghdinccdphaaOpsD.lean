/-
  The functions Trim and Sync of package disk.
-/
import Derived.Test.YtgcghdinccdphaaOpsC
namespace Go.Proofs.Ytgcghdinccdphaa
open Go.RowKit

theorem own_take {w : World} {B n m c : Nat} {a : Option Addr} {l : List UInt8} (h : w.ownsRow B 5 1 (.slice a n c) n (cellsOf l)) (hm : m ≤ n) : w.ownsRow B 5 1 (.slice a m c) m (cellsOf (l.take m)) := by
  have hn : l.length = n := by have := h.1; rw [cellsOf_length] at this; omega
  refine ⟨by rw [cellsOf_length, List.length_take]; omega, ?_⟩
  rcases h.2 with ⟨h1, h2⟩ | ⟨g, cap, cur, h1, h2, h3, h4, h5, h6, h7⟩
  · left
    injection h1 with e1 e2 e3
    subst e1; subst e3
    obtain rfl : m = 0 := by omega
    exact ⟨rfl, rfl⟩
  · right
    injection h1 with e1 e2 e3
    subst e1; subst e3
    refine ⟨g, c, cur, rfl, h2, h3, by omega, h5, h6, ?_⟩
    have e : cellsOf (l.take m) = (cellsOf l).take m := by unfold cellsOf; rw [List.map_take]
    rw [e, ← h7, List.take_take]
    congr 1
    omega
theorem setCell_swap (w : World) (g i j : Nat) (u v : Value) (h : i ≠ j) : (w.setCell ⟨g, i, none⟩ u).setCell ⟨g, j, none⟩ v = (w.setCell ⟨g, j, none⟩ v).setCell ⟨g, i, none⟩ u := by
  unfold World.setCell
  congr 1
  apply Array.ext
  · simp
  · intro x h1 h2
    simp only [Array.getElem_modify]
    split
    · rename_i e
      subst e
      generalize (w.heap[g]'(by simpa using h1)) = o
      cases o <;> simp only [Option.isSome_none, Bool.false_eq_true, if_false]
      rw [Array.setIfInBounds_comm _ _ h]
    · rfl

theorem Disk.trimmed {w : World} {g r : Nat} {N : Nat → Prop} {V : Nat → Value} {F : Nat → List UInt8} {S : Nat → Nat} (h : Dk w g N V r F S) {k n c s : Nat} {a : Option Addr} (hk : k < 256) (hV : V k = .slice a (F k).length c) (hn : n ≤ (F k).length) (hs : s = min n (S k)) :
    Disk ((w.setCell ⟨g, 1 + k * 2, none⟩ (.slice a n c)).setCell ⟨g, 1 + k * 2 + 1, none⟩ (.int .i64 (s : Nat))) g N r (upd F k ((F k).take n)) (upd S k s) ∧
      Kept N w ((w.setCell ⟨g, 1 + k * 2, none⟩ (.slice a n c)).setCell ⟨g, 1 + k * 2 + 1, none⟩ (.int .i64 (s : Nat))) := by
  rw [setCell_swap _ _ _ _ _ _ (by omega)]
  obtain ⟨h1, h2⟩ := h.mark hk (s := s) (by omega)
  have hl : ((F k).take n).length = n := by rw [List.length_take]; omega
  have hown := h1.own k hk
  rw [hV] at hown
  obtain ⟨h3, h4⟩ := h1.put hk (v := .slice a n c) (l := (F k).take n) (World.grownBy.refl _ _) (by rw [hl]; exact own_take hown hn) (by rw [hV]; left; cases a <;> rfl) (by rw [upd_same, hl]; omega) (by
    have := total_upd F k 256 ((F k).take n)
    rw [if_pos hk, if_pos hk, hl] at this
    have := h.fits
    omega)
  exact ⟨⟨_, h3⟩, h2.trans h4⟩
set_option maxRecDepth 100000 in
set_option maxHeartbeats 1600000 in
/-- Trim -/
theorem trim_ok {g r : Nat} {N : Nat → Prop} {F : Nat → List UInt8} {S : Nat → Nat} {w : World} (h : Disk w g N r F S) {k : Nat} (hk : k < 256) (n : Nat) (hn : n ≤ (F k).length) :
    Calls Try.prog 20 #[.pointer (some ⟨g, 0, none⟩), .int .i64 k, .int .i64 n] w fun e w' => e = .returned (.int .i64 0) ∧ Disk w' g N r (upd F k ((F k).take n)) (upd S k (min n (S k))) ∧ Kept N w w' := by
  obtain ⟨V, h⟩ := h
  have hr := h.r2
  have hb := h.byt k hk
  have hs := h.sur k hk
  have hroom := h.room
  have hlen := h.len hk
  obtain ⟨a, c, hV, hc1, hc2, hown⟩ := h.slice hk
  unfold maxLen at hc2
  clear hown
  obtain ⟨s, hse⟩ : ∃ s, s = min n (S k) := ⟨_, rfl⟩
  have HT := Lib.hid (Disk.trimmed h hk hV hn hse)
  have hmin : (if S k < n then ((S k : Nat) : Int) else (n : Int)) = (s : Nat) := by split <;> omega
  rw [← hse]
  rw [hV] at hb
  have hf1 := h.free (1 + k * 2)
  have hf2 := h.free (1 + k * 2 + 1)
  have HO := Lib.hid (of_ok g r h.r1 k hk w hroom)
  have HM := Lib.hid hmin
  clear hV h hse hmin
  generalize (F k).length = ln at *
  generalize S k = sk at *
  go_enter Try.func20, Try.ntmps20
  go_wp2_with fail
  refine (HO.out).mono ?_
  rintro e w1 ⟨rfl, rfl⟩
  clear hroom
  go_wp2_with fail
  go_region
  rw [HM.out]
  go_wp2_with fail
  go_ret
  exact ⟨rfl, HT.out.1.drew, HT.out.2.drew⟩
set_option maxRecDepth 100000 in
set_option maxHeartbeats 1600000 in
theorem trim_no {g r : Nat} {N : Nat → Prop} {F : Nat → List UInt8} {S : Nat → Nat} {w : World} (h : Disk w g N r F S) {k : Nat} (hk : k < 256) (n : Int) (hn : n < 0 ∨ (0 ≤ n ∧ ((F k).length : Int) < n)) :
    Calls Try.prog 20 #[.pointer (some ⟨g, 0, none⟩), .int .i64 k, .int .i64 n] w fun e w' => e = .returned (.int .i64 1) ∧ w = w' := by
  obtain ⟨V, h⟩ := h
  have hb := h.byt k hk
  obtain ⟨a, c, hV, hc1, hc2, hown⟩ := h.slice hk
  rw [hV] at hb
  have HO := Lib.hid (of_ok g r h.r1 k hk w h.room)
  clear hV h hown hc1 hc2
  generalize (F k).length = ln at *
  rcases hn with hn | ⟨hn0, hn⟩
  · go_enter Try.func20, Try.ntmps20
    go_wp2_with fail
    refine (HO.out).mono ?_
    rintro e w1 ⟨rfl, rfl⟩
    go_wp2_with fail
    go_ret
    exact ⟨rfl, rfl⟩
  · have hn1 : ¬ n < 0 := by omega
    go_enter Try.func20, Try.ntmps20
    go_wp2_with fail
    refine (HO.out).mono ?_
    rintro e w1 ⟨rfl, rfl⟩
    go_wp2_with fail
    go_ret
    exact ⟨rfl, rfl⟩
set_option maxRecDepth 100000 in
theorem trim_none {g r : Nat} {N : Nat → Prop} {F : Nat → List UInt8} {S : Nat → Nat} {w : World} (h : Disk w g N r F S) {k : Int} (hk : k < 0 ∨ 256 ≤ k) (n : Int) :
    Calls Try.prog 20 #[.pointer (some ⟨g, 0, none⟩), .int .i64 k, .int .i64 n] w fun e w' => e = .returned (.int .i64 1) ∧ w = w' := by
  obtain ⟨V, h⟩ := h
  have HO := Lib.hid (of_no g r h.r1 k hk w h.room)
  clear h hk
  go_enter Try.func20, Try.ntmps20
  go_wp2_with fail
  refine HO.out.mono ?_
  rintro e w1 ⟨rfl, rfl⟩
  go_wp2_with fail
  go_ret
  exact ⟨rfl, rfl⟩

/-- the first n files are sure -/
def synced (F : Nat → List UInt8) (S : Nat → Nat) (n : Nat) : Nat → Nat := fun i => if i < n then (F i).length else S i
theorem synced_succ (F : Nat → List UInt8) (S : Nat → Nat) (n : Nat) : upd (synced F S n) n (F n).length = synced F S (n + 1) := by
  funext i
  unfold upd synced
  by_cases h : i = n
  · subst h; simp
  · rw [if_neg h]
    by_cases h2 : i < n
    · rw [if_pos h2, if_pos (by omega)]
    · rw [if_neg h2, if_neg (by omega)]

set_option maxRecDepth 100000 in
set_option maxHeartbeats 1600000 in
/-- Sync -/
theorem sync_ok {g r : Nat} {N : Nat → Prop} {F : Nat → List UInt8} {S : Nat → Nat} {w : World} (h : Disk w g N r F S) :
    Calls Try.prog 11 #[.pointer (some ⟨g, 0, none⟩)] w fun e w' => e = .returned (.int .i64 0) ∧ Disk w' g N r F (synced F S 256) ∧ Kept N w w' := by
  obtain ⟨V, h⟩ := h
  have HO := Lib.hid (of_ok g r h.r1 0 (by omega) w h.room)
  have H := Lib.hid (show Dk w g N V r F (synced F S 0) from by
    have : synced F S 0 = S := by funext i; simp [synced]
    rw [this]; exact h)
  clear h
  go_enter Try.func11, Try.ntmps11
  go_wp2_with fail
  refine (HO.out).mono ?_
  rintro e w1 ⟨rfl, rfl⟩
  go_wp2_with fail
  go_loopw [3, 7] (fun _ i wr => ∃ k : Nat, k ≤ 256 ∧ i = .int .i64 k ∧ Hid (Dk wr g N V r F (synced F S k)) ∧ Hid (Kept N w wr)) (fun _ i _ => 256 - (intOf i).toNat)
  case atStart => exact ⟨0, by omega, rfl, H.out, Kept.refl _ _⟩
  case round =>
    obtain ⟨k, hk, rfl, HD, HK⟩ := hrel
    by_cases hlt : k < 256
    · have hb := HD.out.byt k hlt
      have hs := HD.out.sur k hlt
      obtain ⟨a, c, hV, _⟩ := HD.out.slice hlt
      rw [hV] at hb
      have hf := HD.out.free (1 + k * 2 + 1)
      have hlen := HD.out.len hlt
      have hr2 := HD.out.r2
      have HM := Lib.hid (HD.out.mark hlt (Nat.le_refl (F k).length))
      rw [synced_succ] at HM
      clear hV
      generalize (F k).length = ln at *
      go_wp2_with fail
      go_region
      go_wp2_with fail
      go_roundw
      case rel => exact ⟨k + 1, by omega, i64_eq (by omega), HM.out.1.drew, (HK.out.trans HM.out.2).drew⟩
      case measure => simp [intOf]; omega
    · obtain rfl : k = 256 := by omega
      go_wp2_with fail
      go_ret
      exact ⟨rfl, ⟨_, HD.out⟩, HK.out⟩
end Go.Proofs.Ytgcghdinccdphaa
