/-
  The law DiskSurvives: what was synced survives; the call returns true and writes nothing that was there.
-/
import Derived.Test.YtgcghdinccdphaaSurvA
namespace Go.Proofs.Ytgcghdinccdphaa
open Go.RowKit

theorem txt_extract (l : List UInt8) (n : Nat) : (txt l).extract 0 n = txt (l.take n) := by
  apply ba_ext
  simp [txt, ByteArray.data_extract]
theorem and31_nat (i : Nat) (_h : i < 64) : bits .and .i64 (i : Int) 31 = ((i % 32 : Nat) : Int) := by
  rw [i64_mask (i : Int) 5 31 (by decide) (by omega)]
  congr 1
  omega

set_option maxRecDepth 100000 in
set_option maxHeartbeats 3200000 in
theorem surv_main (a : Option Addr) (n c : Nat) (X : Nat → ByteArray) (syncs : Int) (k0 k1 k2 k3 : Int)
    (hk0 : -9223372036854775808 ≤ k0 ∧ k0 ≤ 9223372036854775807) (hk1 : -9223372036854775808 ≤ k1 ∧ k1 ≤ 9223372036854775807) (hk2 : -9223372036854775808 ≤ k2 ∧ k2 ≤ 9223372036854775807)
    (hnc : n ≤ c) (hcm : c ≤ maxLen) (w : World) (hcame : Came w a n X) :
    Calls Try.prog 3 #[.slice a n c, .int .i64 syncs, .agg #[.int .i64 k0, .int .i64 k1, .int .i64 k2, .int .i64 k3]] w fun e w' => e = .returned (.bool true) ∧ Below w.heap.size w w' := by
  unfold maxLen at hcm
  obtain ⟨m, hm⟩ : ∃ m, m = min n 40 := ⟨_, rfl⟩
  have hmn : m ≤ n := by omega
  have hm40 : m ≤ 40 := by omega
  have HMY := Lib.hid (show m < n → m = 40 by omega)
  have HMX := Lib.hid (show ¬ m < n → m = n by omega)
  have HC := Lib.hid hcame
  have hbox : Below w.heap.size w (w.alloc (.cells #[.int .i64 k0, .int .i64 k1, .int .i64 k2, .int .i64 k3] 23)) := (Below.refl _ _).alloc (Nat.le_refl _) _
  have hh : (w.alloc (.cells #[.int .i64 k0, .int .i64 k1, .int .i64 k2, .int .i64 k3] 23)).heap[w.heap.size]? = some (.cells #[.int .i64 k0, .int .i64 k1, .int .i64 k2, .int .i64 k3] 23 (0, 0)) := heap_alloc_new w _
  have hlt0 : w.heap.size < (w.alloc (.cells #[.int .i64 k0, .int .i64 k1, .int .i64 k2, .int .i64 k3] 23)).heap.size := by simp
  have HBOX := Lib.hid hbox
  have HH := Lib.hid hh
  clear hm hcame hbox hh
  go_enter Try.func3, Try.ntmps3
  go_wp2_with fail
  generalize w.alloc (.cells #[.int .i64 k0, .int .i64 k1, .int .i64 k2, .int .i64 k3] 23) = w0 at *
  refine (new_disk 1048576 (by omega) (by omega) w0).mono ?_
  rintro e w1 ⟨rfl, hD1, hK1⟩
  obtain ⟨g, hg⟩ : ∃ g, g = w0.heap.size := ⟨_, rfl⟩
  rw [← hg] at hD1 hK1 hlt0
  rw [← hg]
  have HG := Lib.hid hg
  have HD1 := Lib.hid hD1
  have HK1 := Lib.hid hK1
  clear hg hD1 hK1
  go_wp2_with fail
  obtain ⟨gA, hgA⟩ : ∃ gA, gA = w1.heap.size := ⟨_, rfl⟩
  have hwb : Below w1.heap.size w1 ((w1.alloc (.cells #[.string ⟨#[]⟩, .string ⟨#[]⟩, .string ⟨#[]⟩] 9)).alloc (.cells #[.int .i64 0, .int .i64 0, .int .i64 0] 3)) := ((Below.refl _ _).alloc (Nat.le_refl _) _).alloc (by simp) _
  have hA : ((w1.alloc (.cells #[.string ⟨#[]⟩, .string ⟨#[]⟩, .string ⟨#[]⟩] 9)).alloc (.cells #[.int .i64 0, .int .i64 0, .int .i64 0] 3)).heap[gA]? = some (.cells #[.string ⟨#[]⟩, .string ⟨#[]⟩, .string ⟨#[]⟩] 9 (0, 0)) := by
    rw [hgA, Below.heap_alloc _ _ _ (by simp)]
    exact heap_alloc_new w1 _
  have hS : ((w1.alloc (.cells #[.string ⟨#[]⟩, .string ⟨#[]⟩, .string ⟨#[]⟩] 9)).alloc (.cells #[.int .i64 0, .int .i64 0, .int .i64 0] 3)).heap[gA + 1]? = some (.cells #[.int .i64 0, .int .i64 0, .int .i64 0] 3 (0, 0)) := by
    rw [hgA]
    exact heap_alloc2_new w1 _ _
  have hsz2 : ((w1.alloc (.cells #[.string ⟨#[]⟩, .string ⟨#[]⟩, .string ⟨#[]⟩] 9)).alloc (.cells #[.int .i64 0, .int .i64 0, .int .i64 0] 3)).heap.size = gA + 2 := by simp [hgA]
  rw [← hgA]
  generalize (w1.alloc (.cells #[.string ⟨#[]⟩, .string ⟨#[]⟩, .string ⟨#[]⟩] 9)).alloc (.cells #[.int .i64 0, .int .i64 0, .int .i64 0] 3) = w2 at *
  have hgle : g < gA := by rw [hgA]; exact HD1.out.glt
  have hdk : Disk w2 g (NS g gA (gA + 1)) 1048576 (fun _ => []) (fun _ => 0) := by
    refine (HD1.out.below hwb).less fun b hb => ?_
    rcases hb with hb | rfl | rfl
    · exact .inl hb
    · exact .inr ⟨by omega, by omega⟩
    · exact .inr ⟨by omega, by omega⟩
  have hsv : Surv w2 g gA (gA + 1) (fun _ => []) (fun _ => 0) (fun _ => 0) := by
    refine ⟨hdk, fun j hj => ?_, fun j => frozen_of_row _ _ _ _ _ hA, fun j hj => ?_, fun j => frozen_of_row _ _ _ _ _ hS, by omega⟩
    · rw [cell_of_row _ _ _ _ _ _ hA]
      rcases (by omega : j = 0 ∨ j = 1 ∨ j = 2) with rfl | rfl | rfl <;> rfl
    · rw [cell_of_row _ _ _ _ _ _ hS]
      rcases (by omega : j = 0 ∨ j = 1 ∨ j = 2) with rfl | rfl | rfl <;> rfl
  have HSV := Lib.hid hsv
  have HK2 := Lib.hid (HK1.out.trans (Kept.of_below hwb (fun b hb => by have : b < g := hb; omega)))
  have HT0 := Lib.hid (total_nil 256)
  clear hwb hA hS hsz2 hdk hsv hgA HD1 HK1
  obtain ⟨gS, hgS⟩ : ∃ gS, gS = gA + 1 := ⟨_, rfl⟩
  rw [← hgS] at HSV ⊢
  have hgS1 : g < gS := by omega
  have hne : ¬ gA = gS := by omega
  have hne2 : ¬ gS = gA := by omega
  clear hgS
  go_loopw [11] (fun v wr => ∃ (i : Nat) (F : Nat → List UInt8) (S T : Nat → Nat), i ≤ m ∧ v = .int .i64 i ∧ Hid (Surv wr g gA gS F S T) ∧ Hid (total F 256 ≤ 1024 * i) ∧ Hid (∀ j, j < 3 → T j = S (7 * j)) ∧ Hid (Kept (fun b => b < g) w0 wr)) (fun v _ => m - (intOf v).toNat)
  case atStart => exact ⟨0, _, _, _, by omega, rfl, HSV.out, by rw [HT0.out]; exact Nat.zero_le _, fun _ _ => rfl, HK2.out⟩
  case round =>
    clear HSV HK2 HT0
    obtain ⟨i, F, S, T, him, rfl, HV, HT, HE, HK⟩ := hrel
    by_cases hlt : i < m
    · obtain ⟨b, o, rfl, hc, hb, hx⟩ := HC.out i (by omega)
      unfold maxLen at hx
      have hbg : b < g := by omega
      have hb0 : w0.heap[b]? = w.heap[b]? := HBOX.out.block b hb
      have hcw : ∀ W, Kept (fun b => b < g) w0 W → W.cell? ⟨b, o + i, none⟩ = some (.string (X i)) := fun W hk =>
        (World.cell?_of_block (a := ⟨b, o + i, none⟩) (hk.block b hbg)).trans ((World.cell?_of_block (a := ⟨b, o + i, none⟩) hb0).trans hc)
      have HCW := Lib.hid hcw
      have hc1 := hcw wr HK.out
      have i0 : (0 : Int) ≤ (i : Int) := by omega
      have i1 : (i : Int) < (n : Int) := by omega
      have i2 : (i : Int) < 40 := by omega
      clear hcw hc hb0 hb
      by_cases hX : (X i).size ≤ 1024
      · have hX2 : ¬ (1024 : Int) < ((X i).size : Int) := by omega
        obtain ⟨q, hq⟩ : ∃ q, q = i % 3 := ⟨_, rfl⟩
        have hq3 : q < 3 := by omega
        have hmod : (i : Int) % 3 = (q : Nat) := by omega
        have H7 := Lib.hid (show (7 : Int) * ((q : Nat) : Int) = ((7 * q : Nat) : Int) by omega)
        clear hq
        go_wp2_with fail
        rw [H7.out]
        refine (add_ok HV.out.disk (k := 7 * q) (by omega) (X i) (by have := HT.out; omega)).mono ?_
        rintro e w3 ⟨rfl, hD3, hK3⟩
        have hadd := (HV.out.add hq3 hD3 hK3).resolve_right (by omega)
        have HADD := Lib.hid hadd
        have hc3 := HCW.out w3 (HK.out.trans (hK3.less (fun b hb => .inl hb)))
        have hall3 := HV.out.all_kept hK3 hq3
        have hallf3 := HV.out.allf_kept hK3 q
        clear hadd hD3 hK3 hc1
        have hTq : (txt (F (7 * q))).size ≤ 1048576 := by rw [txt_size]; exact HV.out.disk.len (by omega)
        have q0 : (0 : Int) ≤ (q : Int) := by omega
        have q1 : (q : Int) < 3 := by omega
        generalize txt (F (7 * q)) = Tq at *
        go_wp2_with fail
        go_region
        have h4 : Surv (w3.setCell ⟨gA, q, none⟩ (.string (Tq ++ X i))).drew g gA gS (upd F (7 * q) (F (7 * q) ++ (X i).data.toList)) S T := HADD.out.1.same HADD.out.1.disk.drew (Kept.refl _ _).drew
        have k4 : Kept (fun b => b < g) w0 (w3.setCell ⟨gA, q, none⟩ (.string (Tq ++ X i))).drew := (HK.out.trans HADD.out.2).drew
        have H4 := Lib.hid h4
        have K4 := Lib.hid k4
        have HT4 : Hid (total (upd F (7 * q) (F (7 * q) ++ (X i).data.toList)) 256 ≤ 1024 * (i + 1)) := by
          have htl : (F (7 * q) ++ (X i).data.toList).length = (F (7 * q)).length + (X i).size := by simp
          have := total_upd F (7 * q) 256 (F (7 * q) ++ (X i).data.toList)
          rw [if_pos (by omega), if_pos (by omega), htl] at this
          have := HT.out
          show _ ≤ _
          omega
        clear h4 k4 hall3 hallf3 hc3 HADD
        generalize (w3.setCell ⟨gA, q, none⟩ (.string (Tq ++ X i))).drew = w4 at *
        generalize upd F (7 * q) (F (7 * q) ++ (X i).data.toList) = F4 at *
        obtain ⟨p, hp⟩ : ∃ p, p = i % 32 := ⟨_, rfl⟩
        have hp31 : p < 32 := by omega
        have hm31 : bits .and .i64 (i : Int) 31 = (p : Nat) := by rw [and31_nat i (by omega), ← hp]
        have p0 : (0 : Int) ≤ (p : Int) := by omega
        have p1 : (p : Int) < 64 := by omega
        clear hp
        go_wp2_with fail
        · refine (sync_ok H4.out.disk).mono ?_
          rintro e w5 ⟨rfl, hD5, hK5⟩
          have H5 := Lib.hid (H4.out.same hD5 hK5)
          have K5 := Lib.hid (K4.out.trans (hK5.less (fun b hb => .inl hb)))
          clear hD5 hK5 hm31
          obtain ⟨wo, rfl⟩ : ∃ wo : World, wo = wr := ⟨_, rfl⟩
          go_wp2_with fail
          go_loopw [13] (fun v wr => ∃ (j : Nat) (T5 : Nat → Nat), j ≤ 3 ∧ v = .int .i64 j ∧ Hid (Surv wr g gA gS F4 (synced F4 S 256) T5) ∧ Hid (∀ x, x < j → T5 x = (F4 (7 * x)).length) ∧ Hid (Kept (fun b => b < g) w0 wr)) (fun v _ => 3 - (intOf v).toNat)
          case atStart => exact ⟨0, _, by omega, rfl, H5.out, fun x hx => absurd hx (by omega), K5.out⟩
          case round =>
            obtain ⟨j, T5, hj, rfl, HV5, HE5, HK5⟩ := hrel
            by_cases hj3 : j < 3
            · have j0 : (0 : Int) ≤ (j : Int) := by omega
              have j1 : (j : Int) < 3 := by omega
              have ha := HV5.out.all j hj3
              have hs := HV5.out.sure j hj3
              have hsf := HV5.out.suref j
              have hsz : (txt (F4 (7 * j))).size = (F4 (7 * j)).length := txt_size _
              have HSZ := Lib.hid hsz
              have hbd : (txt (F4 (7 * j))).size ≤ 1048576 := by rw [hsz]; exact HV5.out.disk.len (by omega)
              have HN := Lib.hid (HV5.out.note hj3 (txt (F4 (7 * j))).size)
              clear hsz
              generalize txt (F4 (7 * j)) = Tj at *
              go_wp2_with fail
              go_roundw
              case rel =>
                refine ⟨j + 1, _, by omega, i64_eq (by omega), HN.out, fun x hx => ?_, HK5.out.setCell (by show ¬ gS < g; omega) _⟩
                by_cases e : x = j
                · subst e; rw [upd_same]; exact HSZ.out
                · rw [upd_other _ _ _ _ e]; exact HE5.out x (by omega)
              case measure => simp [intOf]; omega
            · obtain rfl : j = 3 := by omega
              go_wp2_with fail
              go_roundw
              case rel =>
                refine ⟨i + 1, _, _, _, by omega, i64_eq (by omega), HV5.out, HT4.out, fun x hx => ?_, HK5.out⟩
                rw [HE5.out x hx]
                unfold synced
                rw [if_pos (by omega)]
              case measure => simp [intOf]; omega
        · go_roundw
          case rel => exact ⟨i + 1, _, _, _, by omega, i64_eq (by omega), H4.out, HT4.out, HE.out, K4.out⟩
          case measure => simp [intOf]; omega
      · have hX2 : (1024 : Int) < ((X i).size : Int) := by omega
        have hbel := HBOX.out.trans (HK.out.below (B := w.heap.size) (fun x hx => Nat.lt_trans hx hlt0))
        go_wp2_with fail
        refine (awake_any _).mono ?_
        rintro e w8 ⟨rfl, hb8⟩
        go_wp2_with fail
        go_ret
        exact ⟨rfl, hbel.trans (hb8.mono hbel.size)⟩
    · obtain rfl : i = m := by omega
      have hguard : (¬ (i : Int) < (n : Int)) ∨ ((i : Int) < (n : Int) ∧ ¬ (i : Int) < 40) := by
        by_cases h : i < n
        · right
          have := HMY.out h
          subst this
          simp; omega
        · left; omega
      have hkc : ∀ j : Nat, wr.cell? ⟨w.heap.size, j, none⟩ = #[Value.int .i64 k0, .int .i64 k1, .int .i64 k2, .int .i64 k3][j]? := fun j =>
        (World.cell?_of_block (a := ⟨w.heap.size, j, none⟩) (HK.out.block _ hlt0)).trans (cell_of_row _ _ _ _ _ _ HH.out)
      have x0 : wr.cell? ⟨w.heap.size, 0, none⟩ = some (.int .i64 k0) := hkc 0
      have x1 : wr.cell? ⟨w.heap.size, 1, none⟩ = some (.int .i64 k1) := hkc 1
      have x2 : wr.cell? ⟨w.heap.size, 2, none⟩ = some (.int .i64 k2) := hkc 2
      have x3 : wr.cell? ⟨w.heap.size, 3, none⟩ = some (.int .i64 k3) := hkc 3
      have hlw : w.heap.size < wr.heap.size := by have := HV.out.disk.glt; omega
      clear hkc
      have hb7 : Below wr.heap.size wr (wr.alloc (.cells #[.int .i64 k0, .int .i64 k1, .int .i64 k2] 3)) := (Below.refl _ _).alloc (Nat.le_refl _) _
      have hD7 := HV.out.disk.below hb7
      have hI7 : Ints (wr.alloc (.cells #[.int .i64 k0, .int .i64 k1, .int .i64 k2] 3)) (fun b => NS g gA gS b ∨ (wr.heap.size ≤ b ∧ b < (wr.alloc (.cells #[.int .i64 k0, .int .i64 k1, .int .i64 k2] 3)).heap.size)) (.slice (some ⟨wr.heap.size, 0, none⟩) 3 3) [k0, k1, k2] := by
        refine ⟨some ⟨wr.heap.size, 0, none⟩, 3, rfl, Nat.le_refl _, by unfold maxLen; omega, ?_, .inr ⟨wr.heap.size, 0, rfl, .inr ⟨Nat.le_refl _, by simp⟩, fun j hj => ?_⟩⟩
        · intro x hx
          simp only [List.mem_cons, List.not_mem_nil, or_false] at hx
          rcases hx with rfl | rfl | rfl <;> assumption
        · rw [cell_of_row _ _ _ _ _ _ (heap_alloc_new wr _)]
          have hj3 : j < 3 := hj
          rcases (by omega : j = 0 ∨ j = 1 ∨ j = 2) with rfl | rfl | rfl <;> rfl
      have hk7 : Kept (NS g gA gS) wr (wr.alloc (.cells #[.int .i64 k0, .int .i64 k1, .int .i64 k2] 3)) := Kept.of_below hb7 HV.out.disk.lt
      have HI7 := Lib.hid hI7
      have HD7 := Lib.hid hD7
      have HK7 := Lib.hid hk7
      clear hb7 hD7 hI7 hk7
      obtain ⟨wo, rfl⟩ : ∃ wo : World, wo = wr := ⟨_, rfl⟩
      rcases hguard with g1 | ⟨g1, g2⟩
      all_goals
        go_wp2_with fail
        refine (crash_ok HD7.out HI7.out k3 _ rfl).mono ?_
        rintro e w8 ⟨rfl, hD8, hK8⟩
        have HD8 := Lib.hid (hD8.less (N' := NS g gA gS) (fun b hb => .inl hb))
        have HK8 := Lib.hid (HK7.out.trans (hK8.less (fun b hb => .inl hb)))
        clear hD8 hK8 x0 x1 x2 x3
        generalize UInt8.ofNat (k3 % 256).toNat = xb at *
        go_wp2_with fail
        go_loopw [14] (fun v wr => ∃ (k : Nat), k ≤ 3 ∧ v = .int .i64 k ∧ Hid (Disk wr g (NS g gA gS) 1048576 (crashF F S [k0, k1, k2] xb 256) (crashS F S [k0, k1, k2] xb 256)) ∧ Hid (Kept (NS g gA gS) wo wr)) (fun v _ => 3 - (intOf v).toNat)
        case atStart => exact ⟨0, by omega, rfl, HD8.out, HK8.out⟩
        case round =>
          clear HD8 HK8
          obtain ⟨k, hk3, rfl, HD9, HK9⟩ := hrel
          by_cases hk : k < 3
          · have H7 := Lib.hid (show (7 : Int) * ((k : Nat) : Int) = ((7 * k : Nat) : Int) by omega)
            have hk256 : 7 * k < 256 := by omega
            have hcF : crashF F S [k0, k1, k2] xb 256 (7 * k) = crashed F S [k0, k1, k2] xb (7 * k) := by unfold crashF; rw [if_pos hk256]
            have hcS : crashS F S [k0, k1, k2] xb 256 (7 * k) = (crashed F S [k0, k1, k2] xb (7 * k)).length := by unfold crashS; rw [if_pos hk256]
            obtain ⟨l1, l2, l3, l4⟩ := crashed_law F S [k0, k1, k2] xb (7 * k) (HV.out.disk.sure hk256)
            obtain ⟨fl, hfl⟩ : ∃ fl, fl = crashed F S [k0, k1, k2] xb (7 * k) := ⟨_, rfl⟩
            rw [← hfl] at hcF hcS l1 l2 l3 l4
            have hlen := HV.out.disk.len hk256
            have hT := HE.out k hk
            rw [← hT] at l1 l3 l4
            obtain ⟨sk, hsk⟩ : ∃ sk, sk = T k := ⟨_, rfl⟩
            rw [← hsk] at l1 l3 l4
            have HSKE := Lib.hid hsk
            have HCF := Lib.hid hcF
            have HCS := Lib.hid hcS
            have L3 := Lib.hid l3
            have L4 := Lib.hid l4
            clear hcF hcS hfl l3 l4 hT hsk
            obtain ⟨nn, hnn⟩ : ∃ nn, nn = fl.length := ⟨_, rfl⟩
            have HNN := Lib.hid hnn
            rw [← hnn] at l1 l2
            clear hnn
            have kk0 : (0 : Int) ≤ (k : Int) := by omega
            have kk1 : (k : Int) < 3 := by omega
            go_wp2_with fail
            rw [H7.out]
            refine (size_disk HD9.out hk256).mono ?_
            rintro e w10 ⟨rfl, hD10, hK10⟩
            rw [HCF.out, HCS.out, ← HNN.out]
            have HD10 := Lib.hid hD10
            have HK10 := Lib.hid (HK9.out.trans hK10)
            have ha := HV.out.all_kept HK10.out hk
            have hs := HV.out.sure_kept HK10.out hk
            rw [← HSKE.out] at hs
            have hTs : (txt (F (7 * k))).size = (F (7 * k)).length := txt_size _
            clear hD10 hK10
            obtain ⟨Tk, hTk⟩ : ∃ Tk, Tk = txt (F (7 * k)) := ⟨_, rfl⟩
            rw [← hTk] at ha hTs
            have HTK := Lib.hid hTk
            rw [← hTs] at l2 hlen
            clear hTs hTk
            obtain ⟨s, hs2⟩ : ∃ s, s = txt fl := ⟨_, rfl⟩
            have hsz : s.size = nn := by rw [hs2, txt_size, ← HNN.out]
            have hst : txt ((fl.drop 0).take nn) = s := by rw [hs2, List.drop_zero, HNN.out, List.take_length]
            obtain ⟨E, hE⟩ : ∃ E, E = s.extract 0 sk := ⟨_, rfl⟩
            have hE1 : s.extract 0 sk = E := hE.symm
            have hE2 : Tk.extract 0 sk = E := by rw [hE, hs2, HTK.out, txt_extract, txt_extract, L3.out]
            have HST := Lib.hid hst
            have HSF := Lib.hid hs2
            clear hE hst hs2
            go_wp2_with fail
            rw [H7.out]
            refine (bytes_disk HD10.out hk256 0 nn (by rw [HCF.out, ← HNN.out]; omega)).mono ?_
            rintro e w11 ⟨rfl, rfl⟩
            rw [HCF.out, HST.out]
            go_wp2_with fail
            go_quiet (fail)
            go_wp2_with fail
            by_cases hgt : sk < nn
            · obtain ⟨G, hG⟩ : ∃ G, G = s.extract 0 (nn - 1) := ⟨_, rfl⟩
              have hG1 : s.extract 0 (nn - 1) = G := hG.symm
              have hG2 : Tk.extract 0 (nn - 1) = G := by
                have := L4.out (by rw [← HNN.out]; exact hgt)
                rw [← HNN.out] at this
                rw [hG, HSF.out, HTK.out, txt_extract, txt_extract, this]
              have hd : decide (sk < nn) = true := by simpa using hgt
              clear hG
              go_quiet (fail)
              go_wp2_with fail
              go_roundw
              case rel => exact ⟨k + 1, by omega, i64_eq (by omega), HD10.out.drewN _, HK10.out.drewN _⟩
              case measure => simp [intOf]; omega
            · have hd : decide (sk < nn) = false := by simpa using hgt
              go_quiet (fail)
              go_wp2_with fail
              go_roundw
              case rel => exact ⟨k + 1, by omega, i64_eq (by omega), HD10.out.drewN _, HK10.out.drewN _⟩
              case measure => simp [intOf]; omega
          · obtain rfl : k = 3 := by omega
            have hbel := HBOX.out.trans ((HK.out.trans (HK9.out.less (fun b hb => .inl hb))).below (B := w.heap.size) (fun x hx => Nat.lt_trans hx hlt0))
            go_wp2_with fail
            refine (awake_any _).mono ?_
            rintro e w11 ⟨rfl, hb11⟩
            go_wp2_with fail
            go_ret
            exact ⟨rfl, hbel.trans (hb11.mono hbel.size)⟩
end Go.Proofs.Ytgcghdinccdphaa
