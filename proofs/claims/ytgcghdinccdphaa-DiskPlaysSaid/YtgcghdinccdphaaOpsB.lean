/-
  The function Bytes of package disk.
-/
import Derived.Test.YtgcghdinccdphaaOpsA
import Derived.Laws.IdiomStrings
namespace Go.Proofs.Ytgcghdinccdphaa
open Go.RowKit

def txt (l : List UInt8) : ByteArray := ⟨l.toArray⟩
theorem txt_size (l : List UInt8) : (txt l).size = l.length := by simp [txt, ByteArray.size]
theorem txt_data (l : List UInt8) : (txt l).data.toList = l := by simp [txt]
theorem ba_ext {a b : ByteArray} (h : a.data.toList = b.data.toList) : a = b := by
  cases a; cases b
  simp only [ByteArray.mk.injEq]
  exact Array.toList_inj.1 h
theorem txt_self (s : ByteArray) : txt s.data.toList = s := by simp [txt]

theorem convert_nil (w : World) : (convert 54 9 (.slice none 0 0)).run Try.prog w = .ok (.string ⟨#[]⟩) w := by kernel_rfl
theorem own_text {w : World} {B b n c : Nat} {l : List UInt8} (h : w.ownsRow B 5 1 (.slice (some ⟨b, 0, none⟩) n c) n (cellsOf l)) (i m cap : Nat) (him : i + m ≤ n) :
    (convert 54 9 (.slice (some ⟨b, i, none⟩) m cap)).run Try.prog w = .ok (.string (txt ((l.drop i).take m))) w := by
  have hn : l.length = n := by have := h.1; rw [cellsOf_length] at this; omega
  have hl : ((l.drop i).take m).length = m := by rw [List.length_take, List.length_drop]; omega
  have := run_convert_bytes_back (P := Try.prog) w 54 9 5 ⟨b, i, none⟩ cap ((l.drop i).take m) Try.underlying54 Try.underlying5 Try.underlying9 (by
    intro j hj
    have e : (⟨b, i, none⟩ : Addr).add j = ⟨b, i + j, none⟩ := by unfold Addr.add; split <;> simp_all
    rw [e, h.cellAt (i + j) (by omega)]
    unfold cellsOf
    rw [List.getElem?_map, List.getElem?_eq_getElem (by omega)]
    simp)
  rw [hl] at this
  exact this

set_option maxRecDepth 100000 in
set_option maxHeartbeats 1600000 in
/-- Bytes that are there -/
theorem bytes_ok {g r : Nat} {N : Nat → Prop} {V : Nat → Value} {F : Nat → List UInt8} {S : Nat → Nat} {w : World} (h : Dk w g N V r F S) {k : Nat} (hk : k < 256) (i m : Nat) (him : i + m ≤ (F k).length) :
    Calls Try.prog 14 #[.pointer (some ⟨g, 0, none⟩), .int .i64 k, .int .i64 i, .int .i64 m] w fun e w' => e = .returned (.tuple #[.string (txt (((F k).drop i).take m)), .int .i64 0]) ∧ w = w' := by
  have hb := h.byt k hk
  have hs := h.sur k hk
  have hlen := h.len hk
  have hr := h.r2
  obtain ⟨a, c, hV, hc1, hc2, hown⟩ := h.slice hk
  unfold maxLen at hc2
  rw [hV] at hb
  have HO := Lib.hid (of_ok g r h.r1 k hk w h.room)
  clear hV h
  obtain ⟨T, hT⟩ : ∃ T, T = txt (((F k).drop i).take m) := ⟨_, rfl⟩
  rw [← hT]
  rcases hown with ⟨rfl, rfl, h0⟩ | ⟨b, rfl, hown2⟩
  · have hT0 : T = ⟨#[]⟩ := by
      rw [hT, List.eq_nil_of_length_eq_zero h0]
      simp [txt]
    obtain rfl : i = 0 := by omega
    obtain rfl : m = 0 := by omega
    have hcv := convert_nil
    subst hT0
    clear hT
    rw [h0] at hb
    clear h0 hlen hc1 him hc2
    go_enter Try.func14, Try.ntmps14
    go_wp2_with fail
    refine (HO.out).mono ?_
    rintro e w1 ⟨rfl, rfl⟩
    go_wp2_with fail
    go_ret2
    exact ⟨rfl, rfl⟩
  · by_cases hci : c = i
    · obtain rfl : m = 0 := by omega
      have hcv := own_text hown2 0 0 0 (by omega)
      have hT0 : T = ⟨#[]⟩ := by
        rw [hT]
        simp [txt]
      have hcv2 : (convert 54 9 (.slice (some ⟨b, 0, none⟩) 0 0)).run Try.prog w = .ok (.string ⟨#[]⟩) w := by
        rw [hcv]; simp [txt]
      clear hcv hown2 hT
      subst hT0
      have hn : (F k).length = i := by omega
      rw [hn] at hb
      clear hn
      subst hci
      clear hlen hc1 him
      go_enter Try.func14, Try.ntmps14
      go_wp2_with fail
      refine (HO.out).mono ?_
      rintro e w1 ⟨rfl, rfl⟩
      go_wp2_with fail
      go_ret2
      exact ⟨rfl, rfl⟩
    · have hcv := own_text hown2 i m
      rw [← hT] at hcv
      have hcv2 := hcv (c - i) him
      clear hcv hown2 hT
      generalize (F k).length = n at *
      go_enter Try.func14, Try.ntmps14
      go_wp2_with fail
      refine (HO.out).mono ?_
      rintro e w1 ⟨rfl, rfl⟩
      go_wp2_with fail
      go_ret2
      exact ⟨rfl, rfl⟩

set_option maxRecDepth 100000 in
set_option maxHeartbeats 1600000 in
/-- Bytes that are not there -/
theorem bytes_no {g r : Nat} {N : Nat → Prop} {V : Nat → Value} {F : Nat → List UInt8} {S : Nat → Nat} {w : World} (h : Dk w g N V r F S) {k : Nat} (hk : k < 256) (i m : Int) (hi : -9223372036854775808 ≤ i ∧ i ≤ 9223372036854775807) (hm : -9223372036854775808 ≤ m ∧ m ≤ 9223372036854775807)
    (him : i < 0 ∨ (0 ≤ i ∧ m < 0) ∨ (0 ≤ i ∧ 0 ≤ m ∧ ((F k).length : Int) < i) ∨ (0 ≤ i ∧ 0 ≤ m ∧ i ≤ ((F k).length : Int) ∧ ((F k).length : Int) - i < m)) :
    Calls Try.prog 14 #[.pointer (some ⟨g, 0, none⟩), .int .i64 k, .int .i64 i, .int .i64 m] w fun e w' => e = .returned (.tuple #[.string ⟨#[]⟩, .int .i64 1]) ∧ w = w' := by
  have hb := h.byt k hk
  have hlen := h.len hk
  have hr := h.r2
  obtain ⟨a, c, hV, hc1, hc2, hown⟩ := h.slice hk
  clear hown
  rw [hV] at hb
  have HO := Lib.hid (of_ok g r h.r1 k hk w h.room)
  clear hV h hc1 hc2
  generalize (F k).length = n at *
  rcases him with h1 | ⟨h1, h2⟩ | ⟨h1, h2, h3⟩ | ⟨h1, h2, h3, h4⟩
  · go_enter Try.func14, Try.ntmps14
    go_wp2_with fail
    refine (HO.out).mono ?_
    rintro e w1 ⟨rfl, rfl⟩
    go_wp2_with fail
    go_ret2
    exact ⟨rfl, rfl⟩
  · have h1' : ¬ i < 0 := by omega
    go_enter Try.func14, Try.ntmps14
    go_wp2_with fail
    refine (HO.out).mono ?_
    rintro e w1 ⟨rfl, rfl⟩
    go_wp2_with fail
    go_ret2
    exact ⟨rfl, rfl⟩
  · have h1' : ¬ i < 0 := by omega
    have h2' : ¬ m < 0 := by omega
    go_enter Try.func14, Try.ntmps14
    go_wp2_with fail
    refine (HO.out).mono ?_
    rintro e w1 ⟨rfl, rfl⟩
    go_wp2_with fail
    go_ret2
    exact ⟨rfl, rfl⟩
  · have h1' : ¬ i < 0 := by omega
    have h2' : ¬ m < 0 := by omega
    have h3' : ¬ (n : Int) < i := by omega
    go_enter Try.func14, Try.ntmps14
    go_wp2_with fail
    refine (HO.out).mono ?_
    rintro e w1 ⟨rfl, rfl⟩
    go_wp2_with fail
    go_ret2
    exact ⟨rfl, rfl⟩
set_option maxRecDepth 100000 in
theorem bytes_none {g r : Nat} {N : Nat → Prop} {V : Nat → Value} {F : Nat → List UInt8} {S : Nat → Nat} {w : World} (h : Dk w g N V r F S) {k : Int} (hk : k < 0 ∨ 256 ≤ k) (i m : Int) :
    Calls Try.prog 14 #[.pointer (some ⟨g, 0, none⟩), .int .i64 k, .int .i64 i, .int .i64 m] w fun e w' => e = .returned (.tuple #[.string ⟨#[]⟩, .int .i64 1]) ∧ w = w' := by
  have HO := Lib.hid (of_no g r h.r1 k hk w h.room)
  clear h hk
  go_enter Try.func14, Try.ntmps14
  go_wp2_with fail
  refine HO.out.mono ?_
  rintro e w1 ⟨rfl, rfl⟩
  go_wp2_with fail
  go_ret2
  exact ⟨rfl, rfl⟩
end Go.Proofs.Ytgcghdinccdphaa
