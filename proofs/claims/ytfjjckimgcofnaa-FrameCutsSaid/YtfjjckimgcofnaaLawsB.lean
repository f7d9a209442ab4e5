/-
  The walks of the laws FrameTwice and FrameLong: each call returns true and writes nothing that was there.
-/
import Derived.Test.YtfjjckimgcofnaaLawsA
import Derived.Deep.DeepCutAuto
import Derived.OpenShut
namespace Go.Proofs.Ytfjjckimgcofnaa
open Go.RowKit

/-- the records of the first i payloads -/
def recs (L : List (List UInt8)) (i : Nat) : ByteArray := txt (((L.take i).map Rec.putText).flatten)
theorem recs_succ (L : List (List UInt8)) (i : Nat) (h : i < L.length) : recs L i ++ txt (Rec.putText (L.getD i [])) = recs L (i + 1) := by
  apply ba_ext
  unfold recs
  rw [List.take_add_one, List.getElem?_eq_getElem h, Option.toList_some, List.map_append, List.flatten_append]
  simp [txt, List.getD_eq_getElem?_getD, h]
theorem recs_size (L : List (List UInt8)) (i : Nat) : (recs L i).size ≤ ((L.map Rec.putText).flatten).length := by
  unfold recs
  rw [txt_size]
  have e : (L.map Rec.putText).flatten = ((L.take i).map Rec.putText).flatten ++ ((L.drop i).map Rec.putText).flatten := by
    rw [← List.flatten_append, ← List.map_append, List.take_append_drop]
  rw [e, List.length_append]
  omega

set_option maxRecDepth 100000 in
set_option maxHeartbeats 1600000 in
/-- FrameTwice returns true -/
theorem lawTwice (s : ByteArray) (_hs : s.size ≤ maxLen) (w : World) :
    Calls Try.prog 8 #[.string s] w fun e w' => e = .returned (.bool true) ∧ Below w.heap.size w w' := by
  by_cases hlen : s.size ≤ 8192
  · obtain ⟨ha1, ha2, ha3⟩ := Rec.scan_again s.data.toList.length s.data.toList (Nat.le_refl _)
    have hLs := scan_length s.data.toList
    have hsl : s.data.toList.length = s.size := by simp
    have cS := fun W => scan_any s (by omega) W
    obtain ⟨R, hR⟩ : ∃ R, R = Rec.scan s.data.toList := ⟨_, rfl⟩
    simp only [← hR] at cS ha1 ha2 ha3 hLs
    obtain ⟨L, m⟩ := R
    simp only at cS ha1 ha2 ha3 hLs
    have hm : m ≤ s.size := by omega
    have hend : recs L L.length = s.extract 0 m := by
      apply ba_ext
      unfold recs
      rw [List.take_length, ha2, txt_data]
      simp [ByteArray.data_extract]
    have hsz : ∀ i, (recs L i).size ≤ 8192 := by
      intro i
      have := recs_size L i
      rw [ha2, List.length_take] at this
      omega
    have hfit : ∀ i, i < L.length → (L.getD i []).length ≤ 262144 := by
      intro i hi
      rw [List.getD_eq_getElem?_getD, List.getElem?_eq_getElem hi]
      exact ha3 _ (List.getElem_mem hi)
    have cP : ∀ i, i < L.length → ∀ W, Calls Try.prog 10 #[.string (txt (L.getD i []))] W fun e w' => e = .returned (.tuple #[.string (txt (Rec.putText (L.getD i []))), .int .i64 0]) ∧ Below W.heap.size W w' := by
      intro i hi W
      have := put_ok (txt (L.getD i [])) (by rw [txt_size]; exact hfit i hi) W
      rw [txt_data] at this
      exact this
    obtain ⟨F, hF⟩ : ∃ F : Nat → ByteArray, ∀ i, txt (L.getD i []) = F i := ⟨_, fun _ => rfl⟩
    obtain ⟨P, hP⟩ : ∃ P : Nat → ByteArray, ∀ i, txt (Rec.putText (L.getD i [])) = P i := ⟨_, fun _ => rfl⟩
    obtain ⟨A, hA⟩ : ∃ A : Nat → ByteArray, ∀ i, recs L i = A i := ⟨_, fun _ => rfl⟩
    have hPs : ∀ i, i < L.length → (P i).size ≤ 262153 := by
      intro i hi
      rw [← hP, txt_size, Rec.putText_length]
      have := hfit i hi
      omega
    have hstep : ∀ i, i < L.length → A i ++ P i = A (i + 1) := fun i hi => by rw [← hA, ← hA, ← hP]; exact recs_succ L i hi
    have hA0 : A 0 = ⟨#[]⟩ := by rw [← hA]; rfl
    simp only [hA] at hsz hend
    simp only [hF, hP] at cP
    have hn : L.length ≤ 8192 := by omega
    have CS := Lib.hid cS
    have CP := Lib.hid cP
    have HF := Lib.hid hF
    have HSZ := Lib.hid hsz
    have HSTEP := Lib.hid hstep
    have HEND := Lib.hid hend
    have HA0 := Lib.hid hA0
    have HPS := Lib.hid hPs
    clear cS cP hF hP hA hsz hstep hend hA0 hfit ha1 ha2 ha3 hR hsl hPs
    go_enter Try.func8, Try.ntmps8
    go_wp2_with fail
    refine (CS.out _).mono ?_
    rintro e w1 ⟨v, rfl, hown, hb1⟩
    have hst : ∃ a c, v = .slice a L.length c ∧ ∀ i, i < L.length → ∃ g, a = some ⟨g, 0, none⟩ ∧ w1.cell? ⟨g, 0 + i, none⟩ = some (.string (F i)) ∧ g < w1.heap.size := by
      obtain ⟨a, c, hv, h⟩ := own_strs hown
      refine ⟨a, c, hv, fun i hi => ?_⟩
      obtain ⟨g, cap, hv2, _, hg⟩ := hown.form (by omega)
      rw [hv] at hv2
      injection hv2 with hv2
      rcases h with h | ⟨g', o, ha, hc⟩
      · rw [h] at hi; exact absurd hi (by simp)
      · rw [ha] at hv2
        injection hv2 with hv2
        injection hv2 with h1 h2
        subst h1; subst h2
        exact ⟨g', ha, by rw [← HF.out]; exact hc i hi, hg⟩
    obtain ⟨a, c, rfl, hcell⟩ := hst
    have HC := Lib.hid hcell
    clear hcell hown
    generalize L.length = n at *
    go_wp2_with fail
    go_loopw [5, 6] (fun v5 v6 wr => ∃ i : Nat, i ≤ n ∧ v5 = .string (A i) ∧ v6 = .int .i64 i ∧ Below w.heap.size w wr ∧ Below w1.heap.size w1 wr) (fun _ i _ => n - (intOf i).toNat)
    case atStart => exact ⟨0, by omega, by rw [HA0.out], rfl, hb1, Below.refl _ _⟩
    case round =>
      obtain ⟨i, hi, rfl, rfl, hbw, hb2⟩ := hrel
      by_cases hin : i < n
      · obtain ⟨g, rfl, hc, hg⟩ := HC.out i hin
        have hc2 : wr.cell? ⟨g, 0 + i, none⟩ = some (.string (F i)) := (hb2.cell (p := ⟨g, 0 + i, none⟩) hg).trans hc
        rw [Nat.zero_add] at hc2
        have b0 : (0 : Int) ≤ (i : Int) := by omega
        have b1 : (i : Int) < (n : Int) := by omega
        have hs1 := HSZ.out i
        have hs2 := HPS.out i hin
        have CPI := Lib.hid (CP.out i hin)
        have HS := Lib.hid (HSTEP.out i hin)
        clear hc
        go_wp2_with fail
        refine (CPI.out _).mono ?_
        rintro e w3 ⟨rfl, hb3⟩
        go_wp2_with fail
        go_roundw
        case rel => exact ⟨i + 1, by omega, by rw [HS.out], i64_eq (by omega), hbw.trans (hb3.mono hbw.size), hb2.trans (hb3.mono hb2.size)⟩
        case measure => simp [intOf]; omega
      · obtain rfl : i = n := by omega
        have b1 : ¬ (i : Int) < (i : Int) := by omega
        rw [HEND.out]
        have hm0 : (0 : Int) ≤ (m : Int) := by omega
        have hm1 : (m : Int) ≤ (s.size : Int) := by omega
        go_wp2_with fail
        refine (awake_any _).mono ?_
        rintro e w4 ⟨rfl, hb4⟩
        go_wp2_with fail
        go_ret
        exact ⟨rfl, hbw.trans (hb4.mono hbw.size)⟩
  · go_enter Try.func8, Try.ntmps8
    go_wp2_with fail
    refine (awake_any _).mono ?_
    rintro e w2 ⟨rfl, hb2⟩
    go_wp2_with fail
    go_ret
    exact ⟨rfl, hb2⟩

theorem i64_and15 (n : Int) : bits .and .i64 n 15 = n % 16 := by
  have h127 : (BitVec.ofInt 64 15).toNat = 2 ^ 4 - 1 := by decide
  have key : (BitVec.ofInt 64 n &&& BitVec.ofInt 64 15).toNat = (n % ((2 ^ 64 : Nat) : Int)).toNat % 2 ^ 4 := by
    rw [BitVec.toNat_and, BitVec.toNat_ofInt, h127, Nat.and_two_pow_sub_one_eq_mod]
  show IntKind.i64.wrap ((BitVec.ofInt 64 n &&& BitVec.ofInt 64 15).toNat : Nat) = n % 16
  rw [key, IntKind.wrap_i64]
  omega

set_option maxRecDepth 100000 in
set_option maxHeartbeats 1600000 in
/-- FrameLong at a number of which the last four bits are given -/
theorem long_main (more : Int) (k : Nat) (hk : bits .and .i64 more 15 = k) (hk16 : k < 16) (w : World) :
    Calls Try.prog 7 #[.int .i64 more] w fun e w' => e = .returned (.bool true) ∧ Below w.heap.size w w' := by
  obtain ⟨n, hn⟩ : ∃ n : Nat, n = 262136 + k := ⟨_, rfl⟩
  have hnk : (262136 : Int) + (k : Int) = (n : Int) := by omega
  have hmk : ∀ W : World, (Instr.makeSlice 36 (.int .i64 n) (.int .i64 n)).run Try.prog W = .ok (.slice (some ⟨W.heap.size, 0, none⟩) n n) (W.alloc (.cells (noughts n) 5)) := fun W => make_bytes W n (by omega)
  obtain ⟨Z, hZ⟩ : ∃ Z : ByteArray, Z = txt (List.replicate n 0) := ⟨_, rfl⟩
  have hZs : Z.size = n := by rw [hZ, txt_size, List.length_replicate]
  have hback : (convert 36 9 (.slice (some ⟨w.heap.size, 0, none⟩) n n)).run Try.prog (w.alloc (.cells (noughts n) 5)) = .ok (.string Z) (w.alloc (.cells (noughts n) 5)) := by
    have := (row_noughts w n).text n
    rw [List.length_replicate] at this
    rw [hZ]
    exact this
  have hbel : Below w.heap.size w (w.alloc (.cells (noughts n) 5)) := (Below.refl _ _).alloc (Nat.le_refl _) _
  by_cases hlong : 262144 < n
  · have cP : ∀ W, Calls Try.prog 10 #[.string Z] W fun e w' => e = .returned (.tuple #[.string ⟨#[]⟩, .int .i64 4]) ∧ W = w' := fun W => put_long Z (by omega) W
    have CP := Lib.hid cP
    have hn2 : n ≤ 262151 := by omega
    have hlong2 : (262144 : Int) < (n : Int) := by omega
    clear cP hZ hZs hn
    go_enter Try.func7, Try.ntmps7
    go_wp2_with fail
    refine (CP.out _).mono ?_
    rintro e w1 ⟨rfl, rfl⟩
    go_wp2_with fail
    refine (awake_any _).mono ?_
    rintro e w2 ⟨rfl, hb2⟩
    go_wp2_with fail
    go_ret
    exact ⟨rfl, hbel.trans (hb2.mono hbel.size)⟩
  · obtain ⟨R, hR⟩ : ∃ R : ByteArray, R = txt (Rec.putText Z.data.toList) := ⟨_, rfl⟩
    have cP : ∀ W, Calls Try.prog 10 #[.string Z] W fun e w' => e = .returned (.tuple #[.string R, .int .i64 0]) ∧ Below W.heap.size W w' := by
      intro W; rw [hR]; exact put_ok Z (by omega) W
    have hRs : (R.size : Int) = (n : Int) + 9 := by
      rw [hR, txt_size, Rec.putText_length]
      have : Z.data.toList.length = Z.size := by simp
      omega
    have CP := Lib.hid cP
    have hn2 : n ≤ 262151 := by omega
    have hlong2 : ¬ (262144 : Int) < (n : Int) := by omega
    clear cP hZ hZs hn hR
    go_enter Try.func7, Try.ntmps7
    go_wp2_with fail
    refine (CP.out _).mono ?_
    rintro e w1 ⟨rfl, hb1⟩
    have hbel := hbel.trans (hb1.mono hbel.size)
    go_wp2_with fail
    refine (awake_any _).mono ?_
    rintro e w2 ⟨rfl, hb2⟩
    go_wp2_with fail
    go_ret
    exact ⟨rfl, hbel.trans (hb2.mono hbel.size)⟩

/-- FrameLong returns true -/
theorem lawLong (more : Int) (_h1 : (Lit.int .i64 more).wf = true) (w : World) :
    Calls Try.prog 7 #[.int .i64 more] w fun e w' => e = .returned (.bool true) ∧ Below w.heap.size w w' :=
  long_main more (more % 16).toNat (by rw [i64_and15]; omega) (by omega) w
end Go.Proofs.Ytfjjckimgcofnaa
