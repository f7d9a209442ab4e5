/-
  The walks of the laws FramePuts and FrameTakes: each call returns true and writes nothing that was there.
-/
import Derived.Test.YtfjjckimgcofnaaSame
namespace Go.Proofs.Ytfjjckimgcofnaa
open Go.RowKit

theorem flat_length : ∀ L : List (List UInt8), L.length ≤ ((L.map Rec.putText).flatten).length
  | [] => Nat.zero_le _
  | x :: L => by
    have := flat_length L
    rw [List.map_cons, List.flatten_cons, List.length_append, List.length_cons, Rec.putText_length]
    omega
theorem scan_length (s : List UInt8) : (Rec.scan s).1.length ≤ s.length := by
  obtain ⟨_, h, _⟩ := Rec.scan_again s.length s (Nat.le_refl _)
  have := flat_length (Rec.scan s).1
  rw [h, List.length_take] at this
  omega

set_option maxRecDepth 100000 in
set_option maxHeartbeats 1600000 in
/-- FramePuts returns true -/
theorem lawPuts (s tail : ByteArray) (_ : s.size ≤ maxLen) (_ : tail.size ≤ maxLen) (w : World) :
    Calls Try.prog 3 #[.string s, .string tail] w fun e w' => e = .returned (.bool true) ∧ Below w.heap.size w w' := by
  by_cases hlen : s.size ≤ 16384
  · by_cases hlen2 : tail.size ≤ 16384
    · obtain ⟨A, hA⟩ : ∃ A, A = txt (Rec.putText s.data.toList) := ⟨_, rfl⟩
      have hAs : A.size = 9 + s.size := by rw [hA, txt_size, Rec.putText_length]; simp
      have cP : ∀ W, Calls Try.prog 10 #[.string s] W fun e w' => e = .returned (.tuple #[.string A, .int .i64 0]) ∧ Below W.heap.size W w' := by
        intro W; rw [hA]; exact put_ok s (by omega) W
      have cR : ∀ W, Calls Try.prog 11 #[.string s] W fun e w' => e = .returned (.tuple #[.string A, .int .i64 0]) ∧ Below W.heap.size W w' := by
        intro W; rw [hA]; exact refput_ok s (by omega) W
      have cT : ∀ W, Calls Try.prog 12 #[.string (A ++ tail)] W fun e w' => e = .returned (.tuple #[.string s, .int .i64 A.size, .int .i64 0]) ∧ Below W.heap.size W w' := by
        intro W
        have := take_any (A ++ tail) (by rw [ByteArray.size_append, hAs]; unfold maxLen; omega) W
        have e : (A ++ tail : ByteArray).data.toList = Rec.putText s.data.toList ++ tail.data.toList := by rw [hA]; simp [txt]
        rw [e, took_of (Rec.take_put s.data.toList tail.data.toList (by simp; omega))] at this
        have e2 : txt s.data.toList = s := by simp [txt]
        have e3 : 9 + s.data.toList.length = A.size := by rw [hAs]; simp
        rw [e2, e3] at this
        exact this
      have CP := Lib.hid cP
      have CR := Lib.hid cR
      have CT := Lib.hid cT
      have hA2 : A.size ≤ 16393 := by omega
      clear cP cR cT hA hAs
      go_enter Try.func3, Try.ntmps3
      go_wp2_with fail
      refine (CP.out _).mono ?_
      rintro e w1 ⟨rfl, hb1⟩
      go_wp2_with fail
      refine (CR.out _).mono ?_
      rintro e w2 ⟨rfl, hb2⟩
      go_wp2_with fail
      refine (CT.out _).mono ?_
      rintro e w3 ⟨rfl, hb3⟩
      go_wp2_with fail
      refine (awake_any _).mono ?_
      rintro e w4 ⟨rfl, hb4⟩
      go_wp2_with fail
      go_ret
      exact ⟨rfl, hb1.trans ((hb2.mono hb1.size).trans ((hb3.mono (Nat.le_trans hb1.size hb2.size)).trans (hb4.mono (Nat.le_trans (Nat.le_trans hb1.size hb2.size) hb3.size))))⟩
    · go_enter Try.func3, Try.ntmps3
      go_wp2_with fail
      refine (awake_any _).mono ?_
      rintro e w2 ⟨rfl, hb2⟩
      go_wp2_with fail
      go_ret
      exact ⟨rfl, hb2⟩
  · go_enter Try.func3, Try.ntmps3
    go_wp2_with fail
    refine (awake_any _).mono ?_
    rintro e w2 ⟨rfl, hb2⟩
    go_wp2_with fail
    go_ret
    exact ⟨rfl, hb2⟩

set_option maxRecDepth 100000 in
set_option maxHeartbeats 1600000 in
/-- FrameTakes returns true -/
theorem lawTakes (s : ByteArray) (hs : s.size ≤ maxLen) (w : World) :
    Calls Try.prog 4 #[.string s] w fun e w' => e = .returned (.bool true) ∧ Below w.heap.size w w' := by
  by_cases hlen : s.size ≤ 16384
  · have cT : ∀ W, Calls Try.prog 12 #[.string s] W fun e w' => e = took s.data.toList ∧ Below W.heap.size W w' := take_any s hs
    have cR : ∀ W, Calls Try.prog 13 #[.string s] W fun e w' => e = took s.data.toList ∧ Below W.heap.size W w' := reftake_any s hs
    obtain ⟨r, hr⟩ : ∃ r, r = Rec.take s.data.toList := ⟨_, rfl⟩
    have hT : took s.data.toList = .returned (.tuple #[.string (txt r.1), .int .i64 (r.2.1 : Nat), .int .i64 (r.2.2 : Nat)]) := by rw [hr]; rfl
    obtain ⟨L, hL⟩ : ∃ L, L = Rec.scan s.data.toList := ⟨_, rfl⟩
    have cS := fun W => scan_any s (by omega) W
    have cQ := fun W => refscan_any s (by omega) W
    have hlen2 : L.1.length ≤ 1048576 := by
      have := scan_length s.data.toList
      rw [← hL] at this
      have h2 : s.data.toList.length = s.size := by simp
      omega
    simp only [hT] at cT cR
    simp only [← hL] at cS cQ
    obtain ⟨t, n, e⟩ := r
    obtain ⟨T, hT2⟩ : ∃ T, T = txt t := ⟨_, rfl⟩
    simp only [← hT2] at cT cR
    obtain ⟨L, m⟩ := L
    have CT := Lib.hid cT
    have CR := Lib.hid cR
    have CS := Lib.hid cS
    have CQ := Lib.hid cQ
    have CM := Lib.hid (same_any L hlen2)
    clear cT cR cS cQ hT hr hL hT2 hlen2
    go_enter Try.func4, Try.ntmps4
    go_wp2_with fail
    refine (CT.out _).mono ?_
    rintro e w1 ⟨rfl, hb1⟩
    go_wp2_with fail
    refine (CR.out _).mono ?_
    rintro e w2 ⟨rfl, hb2⟩
    go_wp2_with fail
    refine (CS.out _).mono ?_
    rintro e w3 ⟨v1, rfl, ho1, hb3⟩
    go_wp2_with fail
    refine (CQ.out _).mono ?_
    rintro e w4 ⟨v2, rfl, ho2, hb4⟩
    have st1 := (own_strs ho1).below hb4
    have st2 := own_strs ho2
    clear ho1 ho2
    go_wp2_with fail
    refine (CM.out _ _ _ st1 st2).mono ?_
    rintro e w5 ⟨rfl, hb5⟩
    go_wp2_with fail
    refine (awake_any _).mono ?_
    rintro e w6 ⟨rfl, hb6⟩
    go_wp2_with fail
    go_ret
    refine ⟨rfl, ?_⟩
    have h2 := hb1.trans (hb2.mono hb1.size)
    have h3 := h2.trans (hb3.mono h2.size)
    have h4 := h3.trans (hb4.mono h3.size)
    have h5 := h4.trans (hb5.mono h4.size)
    exact h5.trans (hb6.mono h5.size)
  · go_enter Try.func4, Try.ntmps4
    go_wp2_with fail
    refine (awake_any _).mono ?_
    rintro e w2 ⟨rfl, hb2⟩
    go_wp2_with fail
    go_ret
    exact ⟨rfl, hb2⟩
end Go.Proofs.Ytfjjckimgcofnaa
