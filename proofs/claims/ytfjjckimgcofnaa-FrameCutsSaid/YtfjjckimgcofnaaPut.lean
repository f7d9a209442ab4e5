/-
  The functions Put of package frame and of the reference: a payload of at most 2^18 bytes becomes its record, a longer one has none. They write nothing that was there.
-/
import Derived.Test.YtfjjckimgcofnaaRefPut
namespace Go.Proofs.Ytfjjckimgcofnaa
open Go.RowKit

theorem put_text (s : ByteArray) (A B : ByteArray) (hA : A = txt (Rec.le4 s.size)) (hB : B = txt (Rec.le4 (Crc.crc (Rec.le4 s.size ++ s.data.toList)))) :
    (⟨#[82]⟩ ++ A ++ B ++ s : ByteArray) = txt (Rec.putText s.data.toList) := by
  apply ba_ext
  rw [hA, hB]
  simp [txt, Rec.putText]

set_option maxRecDepth 100000 in
set_option maxHeartbeats 1600000 in
theorem put_ok (s : ByteArray) (hs : s.size ≤ 262144) (w : World) :
    Calls Try.prog 10 #[.string s] w fun e w' => e = .returned (.tuple #[.string (txt (Rec.putText s.data.toList)), .int .i64 0]) ∧ Below w.heap.size w w' := by
  obtain ⟨A, hA⟩ : ∃ A, A = txt (Rec.le4 s.size) := ⟨_, rfl⟩
  have hdata : (A ++ s : ByteArray).data.toList = Rec.le4 s.size ++ s.data.toList := by rw [hA]; simp [txt]
  have hsize : (A ++ s : ByteArray).size ≤ maxLen := by
    have h1 : (A ++ s : ByteArray).size = A.size + s.size := ByteArray.size_append
    rw [h1, hA, txt_size, Rec.le4_length]; unfold maxLen; omega
  obtain ⟨c, hc⟩ : ∃ c, c = Crc.crc (Rec.le4 s.size ++ s.data.toList) := ⟨_, rfl⟩
  have hcl : c < 4294967296 := by rw [hc]; exact Crc.crc_lt _
  have cC : ∀ W, Calls Try.prog 18 #[.string (A ++ s)] W fun e w' => e = .returned (.int .i64 c) ∧ Below W.heap.size W w' := by
    intro W
    have := crc_any (A ++ s) W hsize
    rw [hdata, ← hc] at this
    exact this
  have cA : ∀ W, Calls Try.prog 17 #[.int .i64 s.size] W fun e w' => e = .returned (.string A) ∧ Below W.heap.size W w' := by
    intro W
    have := fixed_any s.size (by omega) W
    rw [← hA] at this
    exact this
  obtain ⟨B, hB⟩ : ∃ B, B = txt (Rec.le4 c) := ⟨_, rfl⟩
  have cB : ∀ W, Calls Try.prog 17 #[.int .i64 c] W fun e w' => e = .returned (.string B) ∧ Below W.heap.size W w' := by
    intro W
    have := fixed_any c hcl W
    rw [← hB] at this
    exact this
  have hA4 : A.size ≤ 4 := by rw [hA, txt_size, Rec.le4_length]; omega
  have hB4 : B.size ≤ 4 := by rw [hB, txt_size, Rec.le4_length]; omega
  have HF := Lib.hid (put_text s A B hA (by rw [hB, hc]))
  have CC := Lib.hid cC
  have CA := Lib.hid cA
  have CB := Lib.hid cB
  clear cC cA cB hA hB hc hdata hsize
  go_enter Try.func10, Try.ntmps10
  go_wp2_with fail
  refine (CA.out _).mono ?_
  rintro e w1 ⟨rfl, hb1⟩
  go_wp2_with fail
  refine (CC.out _).mono ?_
  rintro e w2 ⟨rfl, hb2⟩
  go_wp2_with fail
  refine (CB.out _).mono ?_
  rintro e w3 ⟨rfl, hb3⟩
  go_wp2_with fail
  go_ret2
  exact ⟨ret_str2 HF.out, hb1.trans ((hb2.mono hb1.size).trans (hb3.mono (Nat.le_trans hb1.size hb2.size)))⟩

set_option maxRecDepth 100000 in
set_option maxHeartbeats 1600000 in
theorem refput_ok (s : ByteArray) (hs : s.size ≤ 262144) (w : World) :
    Calls Try.prog 11 #[.string s] w fun e w' => e = .returned (.tuple #[.string (txt (Rec.putText s.data.toList)), .int .i64 0]) ∧ Below w.heap.size w w' := by
  obtain ⟨A, hA⟩ : ∃ A, A = txt (Rec.le4 s.size) := ⟨_, rfl⟩
  have hdata : (A ++ s : ByteArray).data.toList = Rec.le4 s.size ++ s.data.toList := by rw [hA]; simp [txt]
  have hsize : (A ++ s : ByteArray).size ≤ maxLen := by
    have h1 : (A ++ s : ByteArray).size = A.size + s.size := ByteArray.size_append
    rw [h1, hA, txt_size, Rec.le4_length]; unfold maxLen; omega
  obtain ⟨c, hc⟩ : ∃ c, c = Crc.crc (Rec.le4 s.size ++ s.data.toList) := ⟨_, rfl⟩
  have hcl : c < 4294967296 := by rw [hc]; exact Crc.crc_lt _
  have cC : ∀ W, Calls Try.prog 20 #[.string (A ++ s)] W fun e w' => e = .returned (.int .i64 c) ∧ W = w' := by
    intro W
    have := refcrc_any (A ++ s) W hsize
    rw [hdata, ← hc] at this
    exact this
  have cA : ∀ W, Calls Try.prog 19 #[.int .i64 s.size, .int .i64 4] W fun e w' => e = .returned (.tuple #[.string A, .int .i64 0]) ∧ Below W.heap.size W w' := by
    intro W
    have := refput4_any s.size (by omega) W
    rw [← hA] at this
    exact this
  obtain ⟨B, hB⟩ : ∃ B, B = txt (Rec.le4 c) := ⟨_, rfl⟩
  have cB : ∀ W, Calls Try.prog 19 #[.int .i64 c, .int .i64 4] W fun e w' => e = .returned (.tuple #[.string B, .int .i64 0]) ∧ Below W.heap.size W w' := by
    intro W
    have := refput4_any c hcl W
    rw [← hB] at this
    exact this
  have hA4 : A.size ≤ 4 := by rw [hA, txt_size, Rec.le4_length]; omega
  have hB4 : B.size ≤ 4 := by rw [hB, txt_size, Rec.le4_length]; omega
  have HF := Lib.hid (put_text s A B hA (by rw [hB, hc]))
  have CC := Lib.hid cC
  have CA := Lib.hid cA
  have CB := Lib.hid cB
  clear cC cA cB hA hB hc hdata hsize
  go_enter Try.func11, Try.ntmps11
  go_wp2_with fail
  refine (CA.out _).mono ?_
  rintro e w1 ⟨rfl, hb1⟩
  go_wp2_with fail
  refine (CC.out _).mono ?_
  rintro e w2 ⟨rfl, rfl⟩
  go_wp2_with fail
  refine (CB.out _).mono ?_
  rintro e w3 ⟨rfl, hb3⟩
  go_wp2_with fail
  go_ret2
  exact ⟨ret_str2 HF.out, hb1.trans (hb3.mono hb1.size)⟩

set_option maxRecDepth 100000 in
theorem put_long (s : ByteArray) (hs : 262144 < s.size) (w : World) :
    Calls Try.prog 10 #[.string s] w fun e w' => e = .returned (.tuple #[.string (txt []), .int .i64 4]) ∧ w = w' := by
  go_enter Try.func10, Try.ntmps10
  go_wp2_with fail
  go_ret2
  exact ⟨rfl, rfl⟩
set_option maxRecDepth 100000 in
theorem refput_long (s : ByteArray) (hs : 262144 < s.size) (w : World) :
    Calls Try.prog 11 #[.string s] w fun e w' => e = .returned (.tuple #[.string (txt []), .int .i64 4]) ∧ w = w' := by
  go_enter Try.func11, Try.ntmps11
  go_wp2_with fail
  go_ret2
  exact ⟨rfl, rfl⟩
end Go.Proofs.Ytfjjckimgcofnaa
