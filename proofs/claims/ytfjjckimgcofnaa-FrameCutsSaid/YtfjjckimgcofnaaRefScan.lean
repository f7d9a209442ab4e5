/-
  The functions Scan and Same of the reference: Scan at every string of at most 2^20 bytes answers what Rec.scan answers; Same, at two lists of texts that are one, answers true. They write nothing that was there.
-/
import Derived.Test.YtfjjckimgcofnaaScan
namespace Go.Proofs.Ytfjjckimgcofnaa
open Go.RowKit

set_option maxRecDepth 100000 in
set_option maxHeartbeats 1600000 in
/-- Scan of the reference -/
theorem refscan_any (s : ByteArray) (hs : s.size ≤ 1048576) (w : World) :
    Calls Try.prog 15 #[.string s] w fun e w' => ∃ v, e = .returned (.tuple #[v, .int .i64 ((Rec.scan s.data.toList).2 : Nat)]) ∧
      w'.ownsRow w.heap.size 9 1 v (Rec.scan s.data.toList).1.length (strCells (Rec.scan s.data.toList).1) ∧ Below w.heap.size w w' := by
  go_enter Try.func15, Try.ntmps15
  go_wp2_with fail
  have hscan : Rec.scan s.data.toList = ([] ++ (Rec.scan (s.data.toList.drop 0)).1, 0 + (Rec.scan (s.data.toList.drop 0)).2) := by simp
  go_loopg [4, 5] (s.size) (fun k v i wr => ∃ (p : Nat) (L : List (List UInt8)), i = .int .i64 p ∧ wr.ownsRow w.heap.size 9 1 v L.length (strCells L) ∧ p ≤ s.size ∧ L.length ≤ p ∧
      Hid (Rec.scan s.data.toList = (L ++ (Rec.scan (s.data.toList.drop p)).1, p + (Rec.scan (s.data.toList.drop p)).2)) ∧ Below w.heap.size w wr ∧ k = s.size - p)
  case atStart => exact ⟨0, [], rfl, ⟨rfl, .inl ⟨rfl, rfl⟩⟩, by omega, by simp, hscan, Below.refl _ _, by omega⟩
  case round =>
    clear hscan
    obtain ⟨p, L, rfl, hown, hp, hL, HS, hbel, rfl⟩ := hrel
    have hsz : (s.extract p s.size).size = s.size - p := by rw [ByteArray.size_extract]; omega
    have cT : ∀ W, Calls Try.prog 13 #[.string (s.extract p s.size)] W fun e w' => e = took (s.data.toList.drop p) ∧ Below W.heap.size W w' := by
      intro W
      have := reftake_any (s.extract p s.size) (by rw [hsz]; unfold maxLen; omega) W
      rw [drop_ext] at this
      exact this
    obtain ⟨r, hr⟩ : ∃ r, r = Rec.take (s.data.toList.drop p) := ⟨_, rfl⟩
    have hT : took (s.data.toList.drop p) = .returned (.tuple #[.string (txt r.1), .int .i64 (r.2.1 : Nat), .int .i64 (r.2.2 : Nat)]) := by rw [hr]; rfl
    simp only [hT] at cT
    have CT := Lib.hid cT
    by_cases ht : (Rec.take (s.data.toList.drop p)).2.2 = 0
    · obtain ⟨r1, r2, r3, _⟩ := Rec.take_record _ ht
      have hd : (s.data.toList.drop p).length = s.size - p := by simp
      rw [hd] at r3
      have HN := Lib.hid (scan_step _ _ _ HS.out ht)
      rw [← hr] at ht r2 r3 HN
      obtain ⟨t, n, e⟩ := r
      have he : e = 0 := ht
      subst he
      have hn : p + n ≤ s.size := by have : n ≤ s.size - p := r3; omega
      have hn9 : 9 ≤ n := by have : n = 9 + t.length := r2; omega
      obtain ⟨T, hT2⟩ : ∃ T, txt t = T := ⟨_, rfl⟩
      have HT2 := Lib.hid hT2
      simp only [hT2] at CT
      obtain ⟨i0, hi, hz0, hz1, hz2⟩ := info_parts info9
      clear cT hT hr ht hsz r1 r2 r3 hd hT2 HS
      go_wp2_with fail
      refine (CT.out _).mono ?_
      rintro e w1 ⟨rfl, hb⟩
      have hb' := hb.mono hbel.size
      have hown1 := own_below hown hb
      have hbel1 := hbel.trans hb'
      clear hb hb' hown hbel
      go_wp2_with (at_builtin; refine wpList_append_own _ rfl _ _ 29 rfl w.heap.size 9 i0 (.string ByteArray.empty) 1 16 Try.underlying29 hi hz0 hz1 hz2 rfl (by decide) _ _ _ rfl (hown1.alloc _) ⟨w1.heap.size, 0, none⟩ 1 1 [.string T] rfl rfl ?c1 ?c2 ?c3 ?c4 ?c5 ?_)
      case c1 => exact cell_one_new _ _ _
      case c2 => intro u hu; rw [List.mem_singleton.1 hu]; rfl
      case c3 => unfold maxLen; omega
      case c4 => omega
      case c5 => have := hbel1.size; simp; omega
      intro v' w2 hown2 hgrow _
      have HB := Lib.hid ((hbel1.alloc hbel1.size (.cells #[.string T] 9)).grown hgrow (by have := hbel1.size; simp; omega) (own_base hown1))
      have HO := Lib.hid hown2
      clear hown1 hbel1 hgrow hown2 hi hz0 hz1 hz2
      go_wp2_with fail
      go_roundg (s.size - (p + n))
      case measure => omega
      case rel =>
        refine ⟨p + n, L ++ [t], i64_eq (by omega), ?_, hn, by simp; omega, HN.out, HB.out, rfl⟩
        have := HO.out
        rw [← HT2.out] at this
        simpa [strCells] using this
    · have HE := Lib.hid (scan_stop _ _ _ HS.out ht)
      rw [← hr] at ht
      obtain ⟨t, n, e⟩ := r
      have he1 : ((e : Int) == 0) = false := by rw [beq_eq_false_iff_ne]; show ¬ (e : Int) = 0; have : e ≠ 0 := ht; omega
      have he2 : ((e : Int) != 0) = true := by rw [bne_iff_ne]; have : e ≠ 0 := ht; omega
      have he3 : (e == 0) = false := by rw [beq_eq_false_iff_ne]; exact ht
      clear cT hT hr ht hsz HS
      go_wp2_with fail
      refine (CT.out _).mono ?_
      rintro e w1 ⟨rfl, hb⟩
      have hb' := hb.mono hbel.size
      have HO := Lib.hid (own_below hown hb)
      have HB := Lib.hid (hbel.trans hb')
      clear hb hb' hown hbel
      go_wp2_with fail
      go_ret2
      refine ⟨u4, ?_, ?_, HB.out⟩
      · rw [HE.out]
        rfl
      · rw [HE.out]
        exact HO.out
end Go.Proofs.Ytfjjckimgcofnaa
