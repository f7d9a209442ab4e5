/-
  The walk of the law FrameCuts: the call returns true and writes nothing that was there.
-/
import Derived.Test.YtfjjckimgcofnaaLawsB
namespace Go.Proofs.Ytfjjckimgcofnaa
open Go.RowKit

/-- the ends of the first i records -/
def endsOf (A : Nat → ByteArray) (i : Nat) : List Value := (List.range i).map fun j => .int .i64 ((A (j + 1)).size : Nat)
theorem endsOf_succ (A : Nat → ByteArray) (i : Nat) : endsOf A i ++ [.int .i64 ((A (i + 1)).size : Nat)] = endsOf A (i + 1) := by
  unfold endsOf
  rw [List.range_succ, List.map_append]
  rfl
theorem endsOf_get (A : Nat → ByteArray) (i j : Nat) (h : j < i) : (endsOf A i)[j]? = some (.int .i64 ((A (j + 1)).size : Nat)) := by
  unfold endsOf
  rw [List.getElem?_map, List.getElem?_range h]
  rfl
theorem recs_mono (L : List (List UInt8)) (i j : Nat) (h : i ≤ j) : (recs L i).size ≤ (recs L j).size := by
  unfold recs
  rw [txt_size, txt_size]
  have e : (L.take j) = L.take i ++ (L.drop i).take (j - i) := by
    have : j = i + (j - i) := by omega
    rw [this, List.take_add]
    congr 2
    omega
  rw [e, List.map_append, List.flatten_append, List.length_append]
  omega
theorem recs_data (L : List (List UInt8)) (i : Nat) : (recs L i).data.toList = ((L.take i).map Rec.putText).flatten := by
  unfold recs; rw [txt_data]
/-- how many records are whole -/
theorem cuts_whole (L : List (List UInt8)) (k : Nat) (hL : ∀ x ∈ L, x.length ≤ 262144) (hk : k ≤ (recs L L.length).size) :
    ∃ m, m ≤ L.length ∧ (recs L m).size ≤ k ∧ (m < L.length → k < (recs L (m + 1)).size) ∧ Rec.scan (((recs L L.length).extract 0 k).data.toList) = (L.take m, (recs L m).size) := by
  have hl : (recs L L.length).size = ((L.map Rec.putText).flatten).length := by unfold recs; rw [txt_size, List.take_length]
  obtain ⟨m, m1, m2, m3, m4⟩ := Rec.scan_cut L k hL (by omega)
  refine ⟨m, m1, ?_, ?_, ?_⟩
  · unfold recs; rw [txt_size]; exact m2
  · intro h; unfold recs; rw [txt_size]; exact m3 h
  · have e : ((recs L L.length).extract 0 k).data.toList = ((L.map Rec.putText).flatten).take k := by
      rw [ByteArray.data_extract, Array.toList_extract, List.extract_eq_take_drop, recs_data, List.take_length, List.drop_zero, Nat.sub_zero]
    rw [e, m4]
    unfold recs
    rw [txt_size]

/-- a slice of texts that came in -/
def Came (w : World) (a : Option Addr) (n : Nat) (F : Nat → ByteArray) : Prop :=
  ∀ i, i < n → ∃ g o, a = some ⟨g, o, none⟩ ∧ w.cell? ⟨g, o + i, none⟩ = some (.string (F i)) ∧ g < w.heap.size

theorem info3 : (Try.prog.info? 3).map (fun i => (i.zero, i.size, i.bytes)) = some (some (.int .i64 0), 1, 8) := by kernel_rfl

theorem came_strs {w w' : World} {a : Option Addr} {n : Nat} {F : Nat → ByteArray} (h : Came w a n F) (hb : Below w.heap.size w w') (c m : Nat) (hm : m ≤ n) :
    Strs w' (.slice a m c) ((List.range m).map fun j => (F j).data.toList) := by
  refine ⟨a, c, by simp, ?_⟩
  rcases Nat.eq_zero_or_pos m with h0 | hp
  · left; subst h0; rfl
  · right
    obtain ⟨g, o, rfl, _, hg⟩ := h 0 (by omega)
    refine ⟨g, o, rfl, fun j hj => ?_⟩
    have hj' : j < m := by simpa using hj
    obtain ⟨g', o', e, hc, _⟩ := h j (by omega)
    injection e with e
    injection e with e1 e2 _
    subst e1; subst e2
    rw [hb.cell (p := ⟨g, o + j, none⟩) hg, hc]
    simp [List.getD, hj', txt]

set_option maxRecDepth 100000 in
set_option maxHeartbeats 3200000 in
/-- FrameCuts returns true -/
theorem lawCuts (a : Option Addr) (n c : Nat) (F : Nat → ByteArray) (hnc : n ≤ c) (hcm : c ≤ maxLen) (cut : Int) (hcut : (Lit.int .i64 cut).wf = true) (w : World) (hcame : Came w a n F) :
    Calls Try.prog 5 #[.slice a n c, .int .i64 cut] w fun e w' => e = .returned (.bool true) ∧ Below w.heap.size w w' := by
  have b1 := bounds_i64 hcut
  unfold maxLen at hcm
  obtain ⟨m, hm⟩ : ∃ m, m = min n 40 := ⟨_, rfl⟩
  have hmn : m ≤ n := by omega
  have hm40 : m ≤ 40 := by omega
  have hmx : ¬ m < n → m = n := by omega
  have hmy : m < n → m = 40 := by omega
  clear hm
  obtain ⟨L, hL⟩ : ∃ L, L = (List.range m).map fun j => (F j).data.toList := ⟨_, rfl⟩
  have hLl : L.length = m := by rw [hL]; simp
  have hLg : ∀ j, j < m → L.getD j [] = (F j).data.toList := by intro j hj; rw [hL]; simp [List.getD, hj]
  obtain ⟨A, hA⟩ : ∃ A : Nat → ByteArray, ∀ i, recs L i = A i := ⟨_, fun _ => rfl⟩
  obtain ⟨P, hP⟩ : ∃ P : Nat → ByteArray, ∀ i, txt (Rec.putText (F i).data.toList) = P i := ⟨_, fun _ => rfl⟩
  have hstep : ∀ i, i < m → A i ++ P i = A (i + 1) := fun i hi => by rw [← hA, ← hA, ← hP, ← hLg i hi]; exact recs_succ L i (by omega)
  have hA0 : A 0 = ⟨#[]⟩ := by rw [← hA]; rfl
  have hPs : ∀ i, (F i).size ≤ 1024 → (P i).size ≤ 1033 := by
    intro i hi
    rw [← hP, txt_size, Rec.putText_length]
    have : (F i).data.toList.length = (F i).size := by simp
    omega
  have hAs : ∀ i, i ≤ m → (∀ j, j < i → (F j).size ≤ 1024) → (A i).size ≤ 1033 * i := by
    intro i
    induction i with
    | zero => intro _ _; rw [hA0]; exact Nat.le_refl _
    | succ i ih =>
      intro hi hj
      have := ih (by omega) (fun j hj' => hj j (by omega))
      have h2 := hPs i (hj i (by omega))
      rw [← hstep i (by omega), ByteArray.size_append]
      omega
  have cP : ∀ i, (F i).size ≤ 1024 → ∀ W, Calls Try.prog 10 #[.string (F i)] W fun e w' => e = .returned (.tuple #[.string (P i), .int .i64 0]) ∧ Below W.heap.size W w' := by
    intro i hi W
    have := put_ok (F i) (by omega) W
    rw [hP] at this
    exact this
  have hwhole : (∀ j, j < m → (F j).size ≤ 1024) → ∀ k, k ≤ (A m).size → ∃ q, q ≤ m ∧ (A q).size ≤ k ∧ (q < m → k < (A (q + 1)).size) ∧ (∀ i, i < q → (A (i + 1)).size ≤ k) ∧
      Rec.scan (((A m).extract 0 k).data.toList) = ((List.range q).map (fun j => (F j).data.toList), (A q).size) := by
    intro hj k hk
    obtain ⟨q, q1, q2, q3, q4⟩ := cuts_whole L k (by
      intro x hx
      rw [hL] at hx
      simp only [List.mem_map, List.mem_range] at hx
      obtain ⟨j, hjm, rfl⟩ := hx
      have := hj j hjm
      have e : (F j).data.toList.length = (F j).size := by simp
      omega) (by rw [hLl, hA]; exact hk)
    rw [hLl] at q1 q3 q4
    simp only [hA] at q2 q3 q4
    refine ⟨q, q1, q2, q3, ?_, ?_⟩
    · intro i hi
      have := recs_mono L (i + 1) q (by omega)
      rw [hA, hA] at this
      omega
    · rw [q4, hL, ← List.map_take, List.take_range, Nat.min_eq_left q1]
  have hcA : ∀ i, i ≤ m → (endsOf A i).length = i := by intro i _; simp [endsOf]
  have HSTEP := Lib.hid hstep
  have HA0 := Lib.hid hA0
  have HPS := Lib.hid hPs
  have HAS := Lib.hid hAs
  have CP := Lib.hid cP
  have HW := Lib.hid hwhole
  have HC := Lib.hid hcame
  have HMX := Lib.hid hmx
  have HMY := Lib.hid hmy
  clear hL hLl hLg hA hP hstep hA0 hPs hAs cP hwhole hcame hmx hmy hcA
  obtain ⟨i0, hi, hz0, hz1, hz2⟩ := info_parts info3
  have HI := Lib.hid hi
  have HZ0 := Lib.hid hz0
  have HZ1 := Lib.hid hz1
  have HZ2 := Lib.hid hz2
  clear hi hz0 hz1 hz2
  go_enter Try.func5, Try.ntmps5
  go_wp2_with fail
  go_loopw [5, 6, 7] (fun v5 v6 v7 wr => ∃ i : Nat, i ≤ m ∧ v5 = .string (A i) ∧ v7 = .int .i64 i ∧ wr.ownsRow w.heap.size 3 1 v6 i (endsOf A i) ∧ Hid (∀ j, j < i → (F j).size ≤ 1024) ∧ Below w.heap.size w wr) (fun _ _ v _ => m - (intOf v).toNat)
  case atStart => exact ⟨0, by omega, by rw [HA0.out], rfl, ⟨rfl, .inl ⟨rfl, rfl⟩⟩, fun j hj => absurd hj (by omega), Below.refl _ _⟩
  case round =>
    obtain ⟨i, him, rfl, rfl, hown, HF, hbel⟩ := hrel
    by_cases hin : i < m
    · obtain ⟨g, o, rfl, hc, hg⟩ := HC.out i (by omega)
      have hc2 : wr.cell? ⟨g, o + i, none⟩ = some (.string (F i)) := (hbel.cell (p := ⟨g, o + i, none⟩) hg).trans hc
      have b0 : (0 : Int) ≤ (i : Int) := by omega
      have b2 : (i : Int) < (n : Int) := by omega
      have b3 : (i : Int) < 40 := by omega
      clear hc
      by_cases hs : (F i).size ≤ 1024
      · have hs2 : ¬ (1024 : Int) < ((F i).size : Int) := by omega
        have hAi := HAS.out i him HF.out
        have hPi := HPS.out i hs
        have HS := Lib.hid (HSTEP.out i hin)
        have CPI := Lib.hid (CP.out i hs)
        go_wp2_with fail
        refine (CPI.out _).mono ?_
        rintro e w3 ⟨rfl, hb3⟩
        have hown3 := own_below hown hb3
        have hbel3 := hbel.trans (hb3.mono hbel.size)
        have hA1 : A i ++ P i = A (i + 1) := HS.out
        have hA1s : (A (i + 1)).size ≤ 50000 := by rw [← hA1, ByteArray.size_append]; omega
        have HA1 := Lib.hid hA1
        clear hA1 hb3 hown hbel
        have hi := HI.out
        have hz0 := HZ0.out
        have hz1 := HZ1.out
        have hz2 := HZ2.out
        go_wp2_with (at_builtin; refine wpList_append_own _ rfl _ _ 34 rfl w.heap.size 3 i0 (.int .i64 0) 1 8 Try.underlying34 hi hz0 hz1 hz2 rfl (by decide) _ _ _ rfl (hown3.alloc _) ⟨w3.heap.size, 0, none⟩ 1 1 [.int .i64 (((A i).size : Int) + ((P i).size : Int))] rfl rfl ?c1 ?c2 ?c3 ?c4 ?c5 ?_)
        case c1 => exact cell_one_new _ _ _
        case c2 => intro u hu; rw [List.mem_singleton.1 hu]; rfl
        case c3 => unfold maxLen; omega
        case c4 => omega
        case c5 => have := hbel3.size; simp; omega
        intro v' w2 hown2 hgrow _
        have HB := Lib.hid ((hbel3.alloc hbel3.size (.cells #[.int .i64 (((A i).size : Int) + ((P i).size : Int))] 3)).grown hgrow (by have := hbel3.size; simp; omega) (own_base hown3))
        have hsum : (((A i).size : Int) + ((P i).size : Int)) = (((A (i + 1)).size : Nat) : Int) := by rw [← HA1.out, ByteArray.size_append]; omega
        rw [hsum, endsOf_succ] at hown2
        have HO := Lib.hid hown2
        clear hown3 hbel3 hgrow hown2 hi hz0 hz1 hz2 hsum
        go_wp2_with fail
        go_roundw
        case rel =>
          refine ⟨i + 1, by omega, by rw [HA1.out], i64_eq (by omega), HO.out, ?_, HB.out⟩
          intro j hj
          rcases Nat.lt_or_ge j i with h | h
          · exact HF.out j h
          · obtain rfl : j = i := by omega
            exact hs
        case measure => simp [intOf]; omega
      · have hs2 : (1024 : Int) < ((F i).size : Int) := by omega
        go_wp2_with fail
        refine (awake_any _).mono ?_
        rintro e w4 ⟨rfl, hb4⟩
        go_wp2_with fail
        go_ret
        exact ⟨rfl, hbel.trans (hb4.mono hbel.size)⟩
    · obtain rfl : i = m := by omega
      have hguard : (¬ (i : Int) < (n : Int)) ∨ ((i : Int) < (n : Int) ∧ ¬ (i : Int) < 40) := by
        by_cases h : i < n
        · right
          have := HMY.out h
          subst this
          simp; omega
        · left; omega
      have hAi := HAS.out i (Nat.le_refl _) HF.out
      obtain ⟨t, ht⟩ : ∃ t, cut.tmod (((A i).size : Int) + 1) = t := ⟨_, rfl⟩
      have hlt : t.natAbs < (A i).size + 1 := by
        rw [← ht, Int.natAbs_tmod]
        have e : ((((A i).size : Int) + 1)).natAbs = (A i).size + 1 := by omega
        rw [e]
        exact Nat.mod_lt _ (by omega)
      obtain ⟨K, hK⟩ : ∃ K, K = t.natAbs := ⟨_, rfl⟩
      have hKA : K ≤ (A i).size := by omega
      obtain ⟨q, q1, q2, q3, q4, q5⟩ := HW.out HF.out K hKA
      have ht0 : -9223372036854775807 ≤ t := by omega
      have ht1 : t ≤ 9223372036854775807 := by omega
      have HKN := Lib.hid (show t < 0 → -t = (K : Int) by omega)
      have HKP := Lib.hid (show ¬ t < 0 → t = (K : Int) by omega)
      clear hlt hK
      have hsz : ((A i).extract 0 K).size = K := by rw [ByteArray.size_extract]; omega
      have cS := fun W => scan_any ((A i).extract 0 K) (by omega) W
      simp only [q5] at cS
      have CS := Lib.hid cS
      obtain ⟨EN, hEN⟩ : ∃ EN, EN = (A q).size := ⟨_, rfl⟩
      have HEN := Lib.hid hEN
      have hen : EN ≤ 50000 := by omega
      simp only [← hEN] at CS
      obtain ⟨a6, c6, hv6, hc6⟩ : ∃ a c, u6 = .slice a i c ∧ ∀ j, j < i → ∃ g, a = some ⟨g, 0, none⟩ ∧ wr.cell? ⟨g, j, none⟩ = some (.int .i64 ((A (j + 1)).size : Nat)) ∧ g < wr.heap.size := by
        rcases hown.2 with ⟨h1, h2⟩ | ⟨g, cap, cur, h1, h2, h3, _⟩
        · subst h2
          exact ⟨none, 0, h1, fun j hj => absurd hj (by omega)⟩
        · refine ⟨some ⟨g, 0, none⟩, cap, h1, fun j hj => ⟨g, rfl, ?_, ?_⟩⟩
          · subst h1
            rw [hown.cellAt j (by omega)]
            exact endsOf_get A i j hj
          · rcases Nat.lt_or_ge g wr.heap.size with h | h
            · exact h
            · rw [Array.getElem?_eq_none h] at h3; cases h3
      subst hv6
      have HC6 := Lib.hid hc6
      have HQ4 := Lib.hid q4
      have HQ3 := Lib.hid q3
      have hbelw := hbel
      clear hc6 q4 q3 q5 hEN cS hsz hown hbel
      rcases hguard with g1 | ⟨g1, g2⟩
      all_goals
        go_upto_if 56 with (fail)
        go_cut [10] (fun v wx => v = .int .i64 K ∧ wr = wx)
        case first =>
          by_cases hneg : t < 0
          · go_wp2_with fail
            go_meet
            exact ⟨i64_eq (HKN.out hneg), rfl⟩
          · go_wp2_with fail
            go_meet
            exact ⟨i64_eq (HKP.out hneg), rfl⟩
        case rest =>
        obtain ⟨rfl, rfl⟩ := hcut
        clear ht HKN HKP
        have k0 : (0 : Int) ≤ (K : Int) := by omega
        have k1 : (K : Int) ≤ ((A i).size : Int) := by omega
        go_wp2_with fail
        refine (CS.out _).mono ?_
        rintro e w2 ⟨v, rfl, hown2, hb2⟩
        obtain ⟨va, vc, hv, hst⟩ : ∃ a c, v = .slice a q c ∧ Strs w2 (.slice a q c) ((List.range q).map fun j => (F j).data.toList) := by
          have h := own_strs hown2
          obtain ⟨a, c, h1, h2⟩ := h
          simp only [List.length_map, List.length_range] at h1
          subst h1
          exact ⟨a, c, rfl, a, c, by simp, h2⟩
        subst hv
        have HST := Lib.hid hst
        clear hst hown2
        have hbel2 := hbelw.trans (hb2.mono hbelw.size)
        have hc62 : ∀ j, j < i → ∃ g, a6 = some ⟨g, 0, none⟩ ∧ w2.cell? ⟨g, j, none⟩ = some (.int .i64 ((A (j + 1)).size : Nat)) := by
          intro j hj
          obtain ⟨g, hg, hc, hlt⟩ := HC6.out j hj
          exact ⟨g, hg, (hb2.cell (p := ⟨g, j, none⟩) hlt).trans hc⟩
        have HC62 := Lib.hid hc62
        clear hc62 hb2
        go_wp2_with fail
        go_loop [13] (fun v13 => ∃ j : Nat, j ≤ q ∧ v13 = .int .i64 j) (fun v => q - (intOf v).toNat)
        case atStart => exact ⟨0, Nat.zero_le _, rfl⟩
        case round =>
          obtain ⟨j, hjq, rfl⟩ := hrel
          by_cases hlt : j < q
          · obtain ⟨g6, rfl, hc⟩ := HC62.out j (by omega)
            have hle := HQ4.out j hlt
            generalize (A (j + 1)).size = EJ at *
            have d0 : (0 : Int) ≤ (j : Int) := by omega
            have d1 : (j : Int) < (i : Int) := by omega
            have d2 : (EJ : Int) ≤ (K : Int) := by omega
            go_wp2_with fail
            go_round
            case rel => exact ⟨j + 1, by omega, i64_eq (by omega)⟩
            case measure => simp [intOf]; omega
          · obtain rfl : j = q := by omega
            have hend : (¬ (j : Int) < (i : Int)) ∨ ((j : Int) < (i : Int) ∧ ∃ g EJ, a6 = some ⟨g, 0, none⟩ ∧ w2.cell? ⟨g, j, none⟩ = some (.int .i64 (EJ : Nat)) ∧ ¬ (EJ : Int) ≤ (K : Int)) := by
              by_cases h : j < i
              · right
                obtain ⟨g, hg, hc⟩ := HC62.out j h
                have := HQ3.out h
                exact ⟨by omega, g, _, hg, hc, by omega⟩
              · left; omega
            have hlast : (j = 0 ∧ EN = 0) ∨ (¬ j = 0 ∧ ∃ g p, j = p + 1 ∧ a6 = some ⟨g, 0, none⟩ ∧ w2.cell? ⟨g, p, none⟩ = some (.int .i64 (EN : Nat))) := by
              by_cases h : j = 0
              · left
                subst h
                refine ⟨rfl, ?_⟩
                rw [HEN.out, HA0.out]
                rfl
              · right
                obtain ⟨p, rfl⟩ : ∃ p, j = p + 1 := ⟨j - 1, by omega⟩
                obtain ⟨g, hg, hc⟩ := HC62.out p (by omega)
                rw [← HEN.out] at hc
                exact ⟨h, g, p, rfl, hg, hc⟩
            have hsm := fun c1 W hb => same_any ((List.range j).map fun j => (F j).data.toList) (by simp; omega) _ _ W (HST.out.below (w' := W) hb) (came_strs (w' := W) HC.out (hbel2.trans (hb.mono hbel2.size)) c1 j (by omega))
            have HSM := Lib.hid hsm
            clear hsm hlt
            rcases hend with e1 | ⟨e1, g6, EJ, he6, hc6, e2⟩
            all_goals
              rcases hlast with ⟨l1, l2⟩ | ⟨l1, g7, p, l2, l3, l4⟩
              · subst l1; subst l2
                try subst he6
                go_wp2_with fail
                all_goals
                  refine (HSM.out _ _ (Below.refl _ _)).mono ?_
                  rintro e w4 ⟨rfl, hb4⟩
                  go_wp2_with fail
                  refine (awake_any _).mono ?_
                  rintro e w5 ⟨rfl, hb5⟩
                  go_wp2_with fail
                  go_ret
                  exact ⟨rfl, hbel2.trans ((hb4.trans (hb5.mono hb4.size)).mono hbel2.size)⟩
              · subst l2; subst l3
                try obtain ⟨rfl, -, -⟩ := Addr.mk.inj (Option.some.inj he6)
                go_wp2_with fail
                all_goals
                  refine (HSM.out _ _ (Below.refl _ _)).mono ?_
                  rintro e w4 ⟨rfl, hb4⟩
                  go_wp2_with fail
                  refine (awake_any _).mono ?_
                  rintro e w5 ⟨rfl, hb5⟩
                  go_wp2_with fail
                  go_ret
                  exact ⟨rfl, hbel2.trans ((hb4.trans (hb5.mono hb4.size)).mono hbel2.size)⟩
end Go.Proofs.Ytfjjckimgcofnaa
