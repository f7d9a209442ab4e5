/-
  The functions Take of package frame and of the reference, at every string: they answer what Rec.take answers for its bytes. They write nothing that was there.
-/
import Derived.Test.YtfjjckimgcofnaaPut
import Derived.RegionTactic
import Derived.RegionCalls
import Derived.Deep.RegionWith
namespace Go.Proofs.Ytfjjckimgcofnaa
open Go.RowKit

/-- what Take hands back -/
def took (l : List UInt8) : Ending := .returned (.tuple #[.string (txt (Rec.take l).1), .int .i64 ((Rec.take l).2.1 : Nat), .int .i64 ((Rec.take l).2.2 : Nat)])
theorem took_of {l : List UInt8} {t : List UInt8} {n e : Nat} (h : Rec.take l = (t, n, e)) : took l = .returned (.tuple #[.string (txt t), .int .i64 (n : Nat), .int .i64 (e : Nat)]) := by
  unfold took; rw [h]
theorem took_ok {l t : List UInt8} {n : Nat} {a : ByteArray} {i : Int} (h : Rec.take l = (t, n, 0)) (ha : a = txt t) (hi : i = (n : Int)) :
    Ending.returned (.tuple #[.string a, .int .i64 i, .int .i64 0]) = took l := by rw [took_of h, ha, hi]; rfl
theorem took_no {l : List UInt8} {e : Nat} {i : Int} (h : Rec.take l = ([], 0, e)) (hi : i = (e : Int)) : Ending.returned (.tuple #[.string { data := #[] }, .int .i64 0, .int .i64 i]) = took l := by rw [took_of h, hi]; rfl
theorem drop_ext (s : ByteArray) (a : Nat) : (s.extract a s.size).data.toList = s.data.toList.drop a := by
  simp only [ByteArray.data_extract, Array.toList_extract, List.extract_eq_take_drop]
  rw [List.take_of_length_le]
  rw [List.length_drop]
  simp
theorem mid_ext (s : ByteArray) (a n : Nat) : (s.extract a (a + n)).data.toList = (s.data.toList.drop a).take n := by
  simp [ByteArray.data_extract]

set_option maxRecDepth 100000 in
set_option maxHeartbeats 1600000 in
theorem take_any (s : ByteArray) (hs : s.size ≤ maxLen) (w : World) :
    Calls Try.prog 12 #[.string s] w fun e w' => e = took s.data.toList ∧ Below w.heap.size w w' := by
  unfold maxLen at hs
  have hlen : s.data.toList.length = s.size := by simp
  by_cases h0 : s.size = 0
  · have hT : Rec.take s.data.toList = ([], 0, 5) := by
      unfold Rec.take
      rw [if_pos (List.length_eq_zero_iff.1 (by omega))]
    have HT := Lib.hid hT
    have he : s.toList = [] := by rw [ByteArray.toList_eq]; exact List.length_eq_zero_iff.1 (by omega)
    clear hT hlen h0
    go_enter Try.func12, Try.ntmps12
    go_wp2_with fail
    go_ret3
    exact ⟨took_no HT.out rfl, Below.refl _ _⟩
  · have h0' : 0 < s.size := by omega
    have hne : s.data.toList ≠ [] := fun h => h0 (by rw [← hlen, h]; rfl)
    have he : s.toList.isEmpty = false := by rw [ByteArray.toList_eq]; cases h : s.data.toList with | nil => exact absurd h hne | cons a b => rfl
    have he2 : (s.toList == []) = false := by rw [ByteArray.toList_eq]; cases h : s.data.toList with | nil => exact absurd h hne | cons a b => rfl
    have hg := at_byte s 0 h0'
    by_cases h1 : s[0] = 82
    · have e1 : ((s[0].toNat : Int) == 82) = true := by rw [beq_iff_eq, h1]; rfl
      have e2 : ((s[0].toNat : Int) != 82) = false := by rw [bne_eq_false_iff_eq, h1]; rfl
      have e3 : (s[0].toNat : Int) = 82 := by rw [h1]; rfl
      by_cases h9 : s.size < 9
      · have hT : Rec.take s.data.toList = ([], 0, 5) := by
          unfold Rec.take
          rw [if_neg hne, if_neg (by rw [hg, h1]; simp), if_pos (by omega)]
        have HT := Lib.hid hT
        clear hT hlen hne hg h0 h1
        go_enter Try.func12, Try.ntmps12
        go_wp2_with fail
        go_ret3
        exact ⟨took_no HT.out rfl, Below.refl _ _⟩
      · have hx : (s.extract 1 s.size).size = s.size - 1 := by rw [ByteArray.size_extract]; omega
        obtain ⟨n, hn⟩ : ∃ n, n = Rec.num4 (s.data.toList.drop 1) := ⟨_, rfl⟩
        have hnl : n < 4294967296 := by rw [hn]; exact Rec.num4_lt _
        have cN : ∀ W, Calls Try.prog 21 #[.string (s.extract 1 s.size), .int .i64 4] W fun e w' => e = .returned (.tuple #[.int .i64 n, .int .i64 0]) ∧ W = w' := by
          intro W
          have := fixed4_any (s.extract 1 s.size) (by rw [hx]; omega) W
          rw [drop_ext, ← hn] at this
          exact this
        have CN := Lib.hid cN
        clear cN hx
        by_cases h2 : 262144 < n
        · have hT : Rec.take s.data.toList = ([], 0, 40) := by
            unfold Rec.take
            rw [if_neg hne, if_neg (by rw [hg, h1]; simp), if_neg (by omega), ← hn, if_pos h2]
          have HT := Lib.hid hT
          clear hT hlen hne hg h0 h1 hn
          go_enter Try.func12, Try.ntmps12
          go_wp2_with fail
          refine (CN.out _).mono ?_
          rintro e w1 ⟨rfl, rfl⟩
          go_wp2_with fail
          go_ret3
          exact ⟨took_no HT.out rfl, Below.refl _ _⟩
        · by_cases h3 : s.size < 9 + n
          · have hT : Rec.take s.data.toList = ([], 0, 5) := by
              unfold Rec.take
              rw [if_neg hne, if_neg (by rw [hg, h1]; simp), if_neg (by omega), ← hn, if_neg h2, if_pos (by omega)]
            have HT := Lib.hid hT
            clear hT hlen hne hg h0 h1 hn
            go_enter Try.func12, Try.ntmps12
            go_wp2_with fail
            refine (CN.out _).mono ?_
            rintro e w1 ⟨rfl, rfl⟩
            go_wp2_with fail
            go_ret3
            exact ⟨took_no HT.out rfl, Below.refl _ _⟩
          · have hx : (s.extract 5 s.size).size = s.size - 5 := by rw [ByteArray.size_extract]; omega
            obtain ⟨m, hm⟩ : ∃ m, m = Rec.num4 (s.data.toList.drop 5) := ⟨_, rfl⟩
            have hml : m < 4294967296 := by rw [hm]; exact Rec.num4_lt _
            have cM : ∀ W, Calls Try.prog 21 #[.string (s.extract 5 s.size), .int .i64 4] W fun e w' => e = .returned (.tuple #[.int .i64 m, .int .i64 0]) ∧ W = w' := by
              intro W
              have := fixed4_any (s.extract 5 s.size) (by rw [hx]; omega) W
              rw [drop_ext, ← hm] at this
              exact this
            have CM := Lib.hid cM
            clear cM hx
            have hsz1 : (s.extract 1 5).size = 4 := by rw [ByteArray.size_extract]; omega
            have hsz2 : (s.extract 9 (9 + n)).size = n := by rw [ByteArray.size_extract]; omega
            have hdata : (s.extract 1 5 ++ s.extract 9 (9 + n) : ByteArray).data.toList = (s.data.toList.drop 1).take 4 ++ (s.data.toList.drop 9).take n := by
              have e4 := mid_ext s 1 4
              have e5 := mid_ext s 9 n
              rw [← e4, ← e5]
              simp
            obtain ⟨c, hc⟩ : ∃ c, c = Crc.crc ((s.data.toList.drop 1).take 4 ++ (s.data.toList.drop 9).take n) := ⟨_, rfl⟩
            have hcl : c < 4294967296 := by rw [hc]; exact Crc.crc_lt _
            have cC : ∀ W, Calls Try.prog 18 #[.string (s.extract 1 5 ++ s.extract 9 (9 + n))] W fun e w' => e = .returned (.int .i64 c) ∧ Below W.heap.size W w' := by
              intro W
              have := crc_any (s.extract 1 5 ++ s.extract 9 (9 + n)) W (by rw [ByteArray.size_append, hsz1, hsz2]; unfold maxLen; omega)
              rw [hdata, ← hc] at this
              exact this
            have CC := Lib.hid cC
            have hle1 : (s.extract 1 5).size ≤ 4 := by omega
            have hle2 : (s.extract 9 (9 + n)).size ≤ 262144 := by omega
            have HX : Hid (s.extract 9 (9 + n) = txt ((s.data.toList.drop 9).take n)) := ba_ext (by rw [txt_data]; exact mid_ext s 9 n)
            clear cC hdata hsz1 hsz2
            by_cases h4 : m = c
            · have hT : Rec.take s.data.toList = ((s.data.toList.drop 9).take n, 9 + n, 0) := by
                unfold Rec.take
                rw [if_neg hne, if_neg (by rw [hg, h1]; simp), if_neg (by omega), ← hn, if_neg h2, if_neg (by omega), ← hm, ← hc, if_neg (by simpa using h4)]
              have HT := Lib.hid hT
              clear hT hlen hne hg h0 h1 hn hm hc
              subst h4
              go_enter Try.func12, Try.ntmps12
              go_wp2_with fail
              refine (CN.out _).mono ?_
              rintro e w1 ⟨rfl, rfl⟩
              go_wp2_with fail
              refine (CM.out _).mono ?_
              rintro e w1 ⟨rfl, rfl⟩
              go_wp2_with fail
              refine (CC.out _).mono ?_
              rintro e w1 ⟨rfl, hb⟩
              go_wp2_with fail
              go_ret3
              exact ⟨took_ok HT.out HX.out (by omega), hb⟩
            · have hT : Rec.take s.data.toList = ([], 0, 40) := by
                unfold Rec.take
                rw [if_neg hne, if_neg (by rw [hg, h1]; simp), if_neg (by omega), ← hn, if_neg h2, if_neg (by omega), ← hm, ← hc, if_pos h4]
              have HT := Lib.hid hT
              have hq1 : (m == c) = false := by rw [beq_eq_false_iff_ne]; exact h4
              have hq2 : ((m : Int) == (c : Int)) = false := by rw [beq_eq_false_iff_ne]; omega
              have hq3 : ((m : Int) != (c : Int)) = true := by rw [bne_iff_ne]; omega
              clear hT hlen hne hg h0 h1 hn hm hc h4
              go_enter Try.func12, Try.ntmps12
              go_wp2_with fail
              refine (CN.out _).mono ?_
              rintro e w1 ⟨rfl, rfl⟩
              go_wp2_with fail
              refine (CM.out _).mono ?_
              rintro e w1 ⟨rfl, rfl⟩
              go_wp2_with fail
              refine (CC.out _).mono ?_
              rintro e w1 ⟨rfl, hb⟩
              go_wp2_with fail
              go_ret3
              exact ⟨took_no HT.out rfl, hb⟩
    · have hT : Rec.take s.data.toList = ([], 0, 40) := by
        unfold Rec.take
        rw [if_neg hne, if_pos (by rw [hg]; exact h1)]
      have HT := Lib.hid hT
      have e1 : ((s[0].toNat : Int) == 82) = false := by
        rw [beq_eq_false_iff_ne]; exact fun h => h1 (UInt8.toNat_inj.1 (by exact_mod_cast h))
      have e2 : ((s[0].toNat : Int) != 82) = true := by
        rw [bne_iff_ne]; exact fun h => h1 (UInt8.toNat_inj.1 (by exact_mod_cast h))
      clear hT hlen hne hg h0 h1
      go_enter Try.func12, Try.ntmps12
      go_wp2_with fail
      go_ret3
      exact ⟨took_no HT.out rfl, Below.refl _ _⟩

set_option maxRecDepth 100000 in
set_option maxHeartbeats 1600000 in
theorem reftake_any (s : ByteArray) (hs : s.size ≤ maxLen) (w : World) :
    Calls Try.prog 13 #[.string s] w fun e w' => e = took s.data.toList ∧ Below w.heap.size w w' := by
  unfold maxLen at hs
  have hlen : s.data.toList.length = s.size := by simp
  by_cases h0 : s.size = 0
  · have hT : Rec.take s.data.toList = ([], 0, 5) := by
      unfold Rec.take
      rw [if_pos (List.length_eq_zero_iff.1 (by omega))]
    have HT := Lib.hid hT
    have he : s.toList = [] := by rw [ByteArray.toList_eq]; exact List.length_eq_zero_iff.1 (by omega)
    clear hT hlen h0
    go_enter Try.func13, Try.ntmps13
    go_wp2_with fail
    go_ret3
    exact ⟨took_no HT.out rfl, Below.refl _ _⟩
  · have h0' : 0 < s.size := by omega
    have hne : s.data.toList ≠ [] := fun h => h0 (by rw [← hlen, h]; rfl)
    have he : s.toList.isEmpty = false := by rw [ByteArray.toList_eq]; cases h : s.data.toList with | nil => exact absurd h hne | cons a b => rfl
    have he2 : (s.toList == []) = false := by rw [ByteArray.toList_eq]; cases h : s.data.toList with | nil => exact absurd h hne | cons a b => rfl
    have hg := at_byte s 0 h0'
    by_cases h1 : s[0] = 82
    · have e1 : ((s[0].toNat : Int) == 82) = true := by rw [beq_iff_eq, h1]; rfl
      have e2 : ((s[0].toNat : Int) != 82) = false := by rw [bne_eq_false_iff_eq, h1]; rfl
      have e3 : (s[0].toNat : Int) = 82 := by rw [h1]; rfl
      by_cases h9 : s.size < 9
      · have hT : Rec.take s.data.toList = ([], 0, 5) := by
          unfold Rec.take
          rw [if_neg hne, if_neg (by rw [hg, h1]; simp), if_pos (by omega)]
        have HT := Lib.hid hT
        clear hT hlen hne hg h0 h1
        go_enter Try.func13, Try.ntmps13
        go_wp2_with fail
        go_ret3
        exact ⟨took_no HT.out rfl, Below.refl _ _⟩
      · have hx : (s.extract 1 s.size).size = s.size - 1 := by rw [ByteArray.size_extract]; omega
        obtain ⟨n, hn⟩ : ∃ n, n = Rec.num4 (s.data.toList.drop 1) := ⟨_, rfl⟩
        have hnl : n < 4294967296 := by rw [hn]; exact Rec.num4_lt _
        have cN : ∀ W, Calls Try.prog 22 #[.string (s.extract 1 s.size), .int .i64 4] W fun e w' => e = .returned (.tuple #[.int .i64 n, .int .i64 0]) ∧ W = w' := by
          intro W
          have := reffixed4_any (s.extract 1 s.size) (by rw [hx]; omega) W
          rw [drop_ext, ← hn] at this
          exact this
        have CN := Lib.hid cN
        clear cN hx
        by_cases h2 : 262144 < n
        · have hT : Rec.take s.data.toList = ([], 0, 40) := by
            unfold Rec.take
            rw [if_neg hne, if_neg (by rw [hg, h1]; simp), if_neg (by omega), ← hn, if_pos h2]
          have HT := Lib.hid hT
          clear hT hlen hne hg h0 h1 hn
          go_enter Try.func13, Try.ntmps13
          go_wp2_with fail
          refine (CN.out _).mono ?_
          rintro e w1 ⟨rfl, rfl⟩
          go_wp2_with fail
          go_ret3
          exact ⟨took_no HT.out rfl, Below.refl _ _⟩
        · by_cases h3 : s.size < 9 + n
          · have hT : Rec.take s.data.toList = ([], 0, 5) := by
              unfold Rec.take
              rw [if_neg hne, if_neg (by rw [hg, h1]; simp), if_neg (by omega), ← hn, if_neg h2, if_pos (by omega)]
            have HT := Lib.hid hT
            clear hT hlen hne hg h0 h1 hn
            go_enter Try.func13, Try.ntmps13
            go_wp2_with fail
            refine (CN.out _).mono ?_
            rintro e w1 ⟨rfl, rfl⟩
            go_wp2_with fail
            go_ret3
            exact ⟨took_no HT.out rfl, Below.refl _ _⟩
          · have hx : (s.extract 5 s.size).size = s.size - 5 := by rw [ByteArray.size_extract]; omega
            obtain ⟨m, hm⟩ : ∃ m, m = Rec.num4 (s.data.toList.drop 5) := ⟨_, rfl⟩
            have hml : m < 4294967296 := by rw [hm]; exact Rec.num4_lt _
            have cM : ∀ W, Calls Try.prog 22 #[.string (s.extract 5 s.size), .int .i64 4] W fun e w' => e = .returned (.tuple #[.int .i64 m, .int .i64 0]) ∧ W = w' := by
              intro W
              have := reffixed4_any (s.extract 5 s.size) (by rw [hx]; omega) W
              rw [drop_ext, ← hm] at this
              exact this
            have CM := Lib.hid cM
            clear cM hx
            have hsz1 : (s.extract 1 5).size = 4 := by rw [ByteArray.size_extract]; omega
            have hsz2 : (s.extract 9 (9 + n)).size = n := by rw [ByteArray.size_extract]; omega
            have hdata : (s.extract 1 5 ++ s.extract 9 (9 + n) : ByteArray).data.toList = (s.data.toList.drop 1).take 4 ++ (s.data.toList.drop 9).take n := by
              have e4 := mid_ext s 1 4
              have e5 := mid_ext s 9 n
              rw [← e4, ← e5]
              simp
            obtain ⟨c, hc⟩ : ∃ c, c = Crc.crc ((s.data.toList.drop 1).take 4 ++ (s.data.toList.drop 9).take n) := ⟨_, rfl⟩
            have hcl : c < 4294967296 := by rw [hc]; exact Crc.crc_lt _
            have cC : ∀ W, Calls Try.prog 20 #[.string (s.extract 1 5 ++ s.extract 9 (9 + n))] W fun e w' => e = .returned (.int .i64 c) ∧ W = w' := by
              intro W
              have := refcrc_any (s.extract 1 5 ++ s.extract 9 (9 + n)) W (by rw [ByteArray.size_append, hsz1, hsz2]; unfold maxLen; omega)
              rw [hdata, ← hc] at this
              exact this
            have CC := Lib.hid cC
            have hle1 : (s.extract 1 5).size ≤ 4 := by omega
            have hle2 : (s.extract 9 (9 + n)).size ≤ 262144 := by omega
            have HX : Hid (s.extract 9 (9 + n) = txt ((s.data.toList.drop 9).take n)) := ba_ext (by rw [txt_data]; exact mid_ext s 9 n)
            clear cC hdata hsz1 hsz2
            by_cases h4 : m = c
            · have hT : Rec.take s.data.toList = ((s.data.toList.drop 9).take n, 9 + n, 0) := by
                unfold Rec.take
                rw [if_neg hne, if_neg (by rw [hg, h1]; simp), if_neg (by omega), ← hn, if_neg h2, if_neg (by omega), ← hm, ← hc, if_neg (by simpa using h4)]
              have HT := Lib.hid hT
              clear hT hlen hne hg h0 h1 hn hm hc
              subst h4
              go_enter Try.func13, Try.ntmps13
              go_wp2_with fail
              refine (CN.out _).mono ?_
              rintro e w1 ⟨rfl, rfl⟩
              go_wp2_with fail
              refine (CM.out _).mono ?_
              rintro e w1 ⟨rfl, rfl⟩
              go_wp2_with fail
              have w1 : IntKind.i64.wrap (9 + (n : Int)) = 9 + (n : Int) := by rw [IntKind.wrap_i64]; omega
              have w2 : (9 : Int) ≤ 9 + (n : Int) := by omega
              have w3 : 9 + (n : Int) ≤ (s.size : Int) := by omega
              have w4 : (9 + (n : Int)).toNat = 9 + n := by omega
              have w5 : (5 : Int) ≤ (s.size : Int) := by omega
              have w6 : 0 ≤ 9 + (n : Int) := by omega
              go_region_with (go_at_call 20; refine (CC.out _).mono ?_; rintro e w1 ⟨rfl, rfl⟩)
              all_goals go_wp2_with fail
              go_ret3
              exact ⟨took_ok HT.out HX.out (by omega), (Below.refl _ _).drew⟩
            · have hT : Rec.take s.data.toList = ([], 0, 40) := by
                unfold Rec.take
                rw [if_neg hne, if_neg (by rw [hg, h1]; simp), if_neg (by omega), ← hn, if_neg h2, if_neg (by omega), ← hm, ← hc, if_pos h4]
              have HT := Lib.hid hT
              have hq1 : (m == c) = false := by rw [beq_eq_false_iff_ne]; exact h4
              have hq2 : ((m : Int) == (c : Int)) = false := by rw [beq_eq_false_iff_ne]; omega
              have hq3 : ((m : Int) != (c : Int)) = true := by rw [bne_iff_ne]; omega
              clear hT hlen hne hg h0 h1 hn hm hc h4
              go_enter Try.func13, Try.ntmps13
              go_wp2_with fail
              refine (CN.out _).mono ?_
              rintro e w1 ⟨rfl, rfl⟩
              go_wp2_with fail
              refine (CM.out _).mono ?_
              rintro e w1 ⟨rfl, rfl⟩
              go_wp2_with fail
              have w1 : IntKind.i64.wrap (9 + (n : Int)) = 9 + (n : Int) := by rw [IntKind.wrap_i64]; omega
              have w2 : (9 : Int) ≤ 9 + (n : Int) := by omega
              have w3 : 9 + (n : Int) ≤ (s.size : Int) := by omega
              have w4 : (9 + (n : Int)).toNat = 9 + n := by omega
              have w5 : (5 : Int) ≤ (s.size : Int) := by omega
              have w6 : 0 ≤ 9 + (n : Int) := by omega
              go_region_with (go_at_call 20; refine (CC.out _).mono ?_; rintro e w1 ⟨rfl, rfl⟩)
              all_goals go_wp2_with fail
              go_ret3
              exact ⟨took_no HT.out rfl, (Below.refl _ _).drew⟩
    · have hT : Rec.take s.data.toList = ([], 0, 40) := by
        unfold Rec.take
        rw [if_neg hne, if_pos (by rw [hg]; exact h1)]
      have HT := Lib.hid hT
      have e1 : ((s[0].toNat : Int) == 82) = false := by
        rw [beq_eq_false_iff_ne]; exact fun h => h1 (UInt8.toNat_inj.1 (by exact_mod_cast h))
      have e2 : ((s[0].toNat : Int) != 82) = true := by
        rw [bne_iff_ne]; exact fun h => h1 (UInt8.toNat_inj.1 (by exact_mod_cast h))
      clear hT hlen hne hg h0 h1
      go_enter Try.func13, Try.ntmps13
      go_wp2_with fail
      go_ret3
      exact ⟨took_no HT.out rfl, Below.refl _ _⟩
end Go.Proofs.Ytfjjckimgcofnaa
