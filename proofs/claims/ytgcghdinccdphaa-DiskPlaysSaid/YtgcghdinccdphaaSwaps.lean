/-
  The law DiskSwaps: a swap is whole; the call returns true and writes nothing that was there.
-/
import Derived.Test.YtgcghdinccdphaaAwake
import Derived.OpenShut
namespace Go.Proofs.Ytgcghdinccdphaa
open Go.RowKit

theorem i64_mask (n : Int) (k : Nat) (m : Int) (hm : (BitVec.ofInt 64 m).toNat = 2 ^ k - 1) (hk : k ≤ 16) : bits .and .i64 n m = ((n % ((2 ^ 64 : Nat) : Int)).toNat % 2 ^ k : Nat) := by
  have key : (BitVec.ofInt 64 n &&& BitVec.ofInt 64 m).toNat = (n % ((2 ^ 64 : Nat) : Int)).toNat % 2 ^ k := by
    rw [BitVec.toNat_and, BitVec.toNat_ofInt, hm, Nat.and_two_pow_sub_one_eq_mod]
  show IntKind.i64.wrap ((BitVec.ofInt 64 n &&& BitVec.ofInt 64 m).toNat : Nat) = _
  rw [key, IntKind.wrap_i64]
  have h1 : (n % ((2 ^ 64 : Nat) : Int)).toNat % 2 ^ k < 2 ^ k := Nat.mod_lt _ (Nat.two_pow_pos k)
  have h2 : 2 ^ k ≤ 2 ^ 16 := Nat.pow_le_pow_right (by omega) hk
  omega
theorem and255 (n : Int) : ∃ k : Nat, k < 256 ∧ bits .and .i64 n 255 = (k : Nat) := ⟨_, Nat.mod_lt _ (by decide), i64_mask n 8 255 (by decide) (by omega)⟩
theorem and7 (n : Int) : ∃ k : Nat, k < 8 ∧ bits .and .i64 n 7 = (k : Nat) := ⟨_, Nat.mod_lt _ (by decide), i64_mask n 3 7 (by decide) (by omega)⟩
theorem and1_nat (k : Nat) (_h : k < 8) : bits .and .i64 (k : Int) 1 = ((k % 2 : Nat) : Int) := by
  rw [i64_mask (k : Int) 1 1 (by decide) (by omega)]
  congr 1
  omega

theorem sw_fst {a b : Nat} (h : a ≠ b) : sw a b a = b := by unfold sw; rw [if_neg h, if_pos rfl]
theorem sw_snd {a b : Nat} : sw a b b = a := by unfold sw; rw [if_pos rfl]
theorem crash_sure (F : Nat → List UInt8) (S : Nat → Nat) (L : List Int) (x : UInt8) {k : Nat} (hk : k < 256) (h : S k = (F k).length) : crashF F S L x 256 k = F k := by
  unfold crashF; rw [if_pos hk]; unfold crashed; rw [if_pos h]
theorem txt_whole (s : ByteArray) : txt ((s.data.toList.drop 0).take s.size) = s := by
  have : s.data.toList.length = s.size := by simp
  rw [List.drop_zero, ← this, List.take_length, txt_self]

set_option maxRecDepth 100000 in
set_option maxHeartbeats 3200000 in
theorem swaps_main (s t : ByteArray) (x y z : Int) (A B n p : Nat) (hA : bits .and .i64 x 255 = (A : Nat)) (hB : bits .and .i64 y 255 = (B : Nat)) (hn : bits .and .i64 z 7 = (n : Nat)) (hp : bits .and .i64 (n : Int) 1 = (p : Nat)) (hpn : p = n % 2)
    (hA2 : A < 256) (hB2 : B < 256) (hn2 : n < 8) (hAB : A ≠ B) (hst : s.size + t.size ≤ 65536) (w : World) :
    Calls Try.prog 4 #[.string s, .string t, .agg #[.int .i64 x, .int .i64 y, .int .i64 z]] w fun e w' => e = .returned (.bool true) ∧ Below w.heap.size w w' := by
  have hbox : Below w.heap.size w (w.alloc (.cells #[.int .i64 x, .int .i64 y, .int .i64 z] 38)) := (Below.refl _ _).alloc (Nat.le_refl _) _
  have hh : (w.alloc (.cells #[.int .i64 x, .int .i64 y, .int .i64 z] 38)).heap[w.heap.size]? = some (.cells #[.int .i64 x, .int .i64 y, .int .i64 z] 38 (0, 0)) := heap_alloc_new w _
  have hab : ((A : Int) == (B : Int)) = false := by simp; omega
  have hst2 : ¬ (65536 : Int) < (s.size : Int) + (t.size : Int) := by omega
  have HBOX := Lib.hid hbox
  have HH := Lib.hid hh
  have HPN := Lib.hid hpn
  clear hbox hh hpn
  go_enter Try.func4, Try.ntmps4
  go_wp2_with fail
  generalize w.alloc (.cells #[.int .i64 x, .int .i64 y, .int .i64 z] 38) = w0 at *
  refine (new_disk 1048576 (by omega) (by omega) w0).mono ?_
  rintro e w1 ⟨rfl, hD1, hK1⟩
  have hlt0 : w.heap.size < w0.heap.size := by
    rcases Nat.lt_or_ge w.heap.size w0.heap.size with h | h
    · exact h
    · have := HH.out
      rw [Array.getElem?_eq_none h] at this
      cases this
  obtain ⟨g, hg⟩ : ∃ g, g = w0.heap.size := ⟨_, rfl⟩
  rw [← hg] at hD1 hK1 hlt0
  rw [← hg]
  have HG := Lib.hid hg
  have HD1 := Lib.hid hD1
  have HK1 := Lib.hid hK1
  have hx0 : ∀ o, w1.cell? ⟨w.heap.size, o, none⟩ = #[Value.int .i64 x, .int .i64 y, .int .i64 z][o]? := fun o =>
    (World.cell?_of_block (a := ⟨w.heap.size, o, none⟩) (hK1.block _ hlt0)).trans (cell_of_row _ _ _ _ _ _ HH.out)
  have c0 : w1.cell? ⟨w.heap.size, 0, none⟩ = some (.int .i64 x) := hx0 0
  have c1 : w1.cell? ⟨w.heap.size, 1, none⟩ = some (.int .i64 y) := hx0 1
  have HX := Lib.hid hx0
  clear hg hD1 hK1 hx0
  go_wp2_with fail
  go_quiet (fail)
  have c2 : (w1.drewN nq).cell? ⟨w.heap.size, 2, none⟩ = some (.int .i64 z) := HX.out 2
  have HD2 := Lib.hid (HD1.out.drewN nq)
  have HK2 := Lib.hid (HK1.out.drewN nq)
  clear c0 c1 HX
  generalize w1.drewN nq = w2 at *
  go_wp2_with fail
  refine (add_ok HD2.out hA2 s (by rw [total_nil]; omega)).mono ?_
  rintro e w3 ⟨rfl, hD3, hK3⟩
  have HD3 := Lib.hid hD3
  have HK3 := Lib.hid (HK2.out.trans hK3)
  clear hD3 hK3 c2
  go_wp2_with fail
  refine (add_ok HD3.out hB2 t (by rw [total_only A hA2]; simp; omega)).mono ?_
  rintro e w4 ⟨rfl, hD4, hK4⟩
  have HD4 := Lib.hid hD4
  have HK4 := Lib.hid (HK3.out.trans hK4)
  clear hD4 hK4
  go_wp2_with fail
  refine (sync_ok HD4.out).mono ?_
  rintro e w5 ⟨rfl, hD5, hK5⟩
  have hst5 : ∃ F S, Disk w5 g (fun b => b < g) 1048576 F S ∧ (∀ k, k < 256 → S k = (F k).length) ∧ F A = s.data.toList ∧ F B = t.data.toList := by
    refine ⟨_, _, hD5, fun k hk => ?_, ?_, ?_⟩
    · unfold synced; rw [if_pos hk]
    · rw [upd_other _ _ _ _ hAB, upd_same]; rfl
    · rw [upd_same, upd_other _ _ _ _ (Ne.symm hAB)]; rfl
  have HS5 := Lib.hid hst5
  have HK5 := Lib.hid (HK4.out.trans hK5)
  clear hD5 hK5 hst5
  go_wp2_with fail
  go_loopw [12] (fun v wr => ∃ (i : Nat) (F : Nat → List UInt8) (S : Nat → Nat), i ≤ n ∧ v = .int .i64 i ∧ Hid (Disk wr g (fun b => b < g) 1048576 F S) ∧ Hid (∀ k, k < 256 → S k = (F k).length) ∧
      Hid (i % 2 = 0 → F A = s.data.toList ∧ F B = t.data.toList) ∧ Hid (i % 2 = 1 → F A = t.data.toList ∧ F B = s.data.toList) ∧ Hid (Kept (fun b => b < g) w0 wr)) (fun v _ => n - (intOf v).toNat)
  case atStart =>
    obtain ⟨F, S, h1, h2, h3, h4⟩ := HS5.out
    exact ⟨0, F, S, by omega, rfl, h1, h2, fun _ => ⟨h3, h4⟩, fun h => absurd h (by omega), HK5.out⟩
  case round =>
    clear HS5 HK5 HK4 HK3 HK2 HK1 HD1 HD2 HD3 HD4
    obtain ⟨i, F, S, hin, rfl, HD, HS, HE, HOD, HK⟩ := hrel
    by_cases hlt : i < n
    · have hi2 : (i : Int) < (n : Int) := by omega
      go_wp2_with fail
      refine (swap_ok HD.out hA2 hB2 hAB (HS.out A hA2) (HS.out B hB2)).mono ?_
      rintro e w6 ⟨rfl, hD6, hK6⟩
      have HD6 := Lib.hid hD6
      have HK6 := Lib.hid (HK.out.trans hK6)
      clear hD6 hK6
      go_wp2_with fail
      go_roundw
      case rel =>
        refine ⟨i + 1, _, _, by omega, i64_eq (by omega), HD6.out, fun k hk => HS.out _ (sw_lt hA2 hB2 hk), fun h => ?_, fun h => ?_, HK6.out⟩
        · obtain ⟨h1, h2⟩ := HOD.out (by omega)
          exact ⟨by rw [sw_fst hAB]; exact h2, by rw [sw_snd]; exact h1⟩
        · obtain ⟨h1, h2⟩ := HE.out (by omega)
          exact ⟨by rw [sw_fst hAB]; exact h2, by rw [sw_snd]; exact h1⟩
      case measure => simp [intOf]; omega
    · obtain rfl : i = n := by omega
      have hi2 : ¬ (i : Int) < (i : Int) := by omega
      go_wp2_with fail
      refine (crash_ok HD.out (Ints.nil wr _) 0 0 (by decide)).mono ?_
      rintro e w6 ⟨rfl, hD6, hK6⟩
      have HD6 := Lib.hid hD6
      have HK6 := Lib.hid (HK.out.trans hK6)
      have HFA := Lib.hid (crash_sure F S [] 0 hA2 (HS.out A hA2))
      have HFB := Lib.hid (crash_sure F S [] 0 hB2 (HS.out B hB2))
      clear hD6 hK6
      have hpar : (p = 1 ∧ i % 2 = 1) ∨ (p = 0 ∧ i % 2 = 0) := by have := HPN.out; omega
      have hsl : s.data.toList.length = s.size := by simp
      have htl : t.data.toList.length = t.size := by simp
      have HSL := Lib.hid hsl
      have HTL := Lib.hid htl
      clear hsl htl
      rcases hpar with ⟨rfl, hodd⟩ | ⟨rfl, heven⟩
      · obtain ⟨h1, h2⟩ := HOD.out hodd
        have hFA := HFA.out.trans h1
        have hFB := HFB.out.trans h2
        have HFA2 := Lib.hid hFA
        have HFB2 := Lib.hid hFB
        clear hodd h1 h2 hFA hFB HFA HFB
        go_wp2_with fail
        refine (bytes_disk HD6.out hB2 0 s.size (by rw [HFB2.out, HSL.out]; omega)).mono ?_
        rintro e w7 ⟨rfl, rfl⟩
        rw [HFB2.out, txt_whole]
        go_wp2_with fail
        refine (bytes_disk HD6.out hA2 0 t.size (by rw [HFA2.out, HTL.out]; omega)).mono ?_
        rintro e w7 ⟨rfl, rfl⟩
        rw [HFA2.out, txt_whole]
        go_wp2_with fail
        refine (awake_any _).mono ?_
        rintro e w8 ⟨rfl, hb8⟩
        have hbel := HBOX.out.trans ((HK6.out.below (B := w.heap.size) (fun x hx => Nat.lt_trans hx hlt0)))
        go_wp2_with fail
        go_ret
        exact ⟨rfl, hbel.trans (hb8.mono hbel.size)⟩
      · obtain ⟨h1, h2⟩ := HE.out heven
        have hFA := HFA.out.trans h1
        have hFB := HFB.out.trans h2
        have HFA2 := Lib.hid hFA
        have HFB2 := Lib.hid hFB
        clear heven h1 h2 hFA hFB HFA HFB
        go_wp2_with fail
        refine (bytes_disk HD6.out hA2 0 s.size (by rw [HFA2.out, HSL.out]; omega)).mono ?_
        rintro e w7 ⟨rfl, rfl⟩
        rw [HFA2.out, txt_whole]
        go_wp2_with fail
        refine (bytes_disk HD6.out hB2 0 t.size (by rw [HFB2.out, HTL.out]; omega)).mono ?_
        rintro e w7 ⟨rfl, rfl⟩
        rw [HFB2.out, txt_whole]
        go_wp2_with fail
        refine (awake_any _).mono ?_
        rintro e w8 ⟨rfl, hb8⟩
        have hbel := HBOX.out.trans ((HK6.out.below (B := w.heap.size) (fun x hx => Nat.lt_trans hx hlt0)))
        go_wp2_with fail
        go_ret
        exact ⟨rfl, hbel.trans (hb8.mono hbel.size)⟩

set_option maxRecDepth 100000 in
set_option maxHeartbeats 3200000 in
/-- DiskSwaps returns true -/
theorem lawSwaps (s t : ByteArray) (hs : s.size ≤ maxLen) (ht : t.size ≤ maxLen) (hsz : s.size + t.size ≤ 9223372036854775807) (x y z : Int) (w : World) :
    Calls Try.prog 4 #[.string s, .string t, .agg #[.int .i64 x, .int .i64 y, .int .i64 z]] w fun e w' => e = .returned (.bool true) ∧ Below w.heap.size w w' := by
  unfold maxLen at hs ht
  obtain ⟨A, hA2, hA⟩ := and255 x
  obtain ⟨B, hB2, hB⟩ := and255 y
  obtain ⟨n, hn2, hn⟩ := and7 z
  by_cases hst : s.size + t.size ≤ 65536
  · by_cases hAB : A = B
    · subst hAB
      have hbox : Below w.heap.size w (w.alloc (.cells #[.int .i64 x, .int .i64 y, .int .i64 z] 38)) := (Below.refl _ _).alloc (Nat.le_refl _) _
      have hh : (w.alloc (.cells #[.int .i64 x, .int .i64 y, .int .i64 z] 38)).heap[w.heap.size]? = some (.cells #[.int .i64 x, .int .i64 y, .int .i64 z] 38 (0, 0)) := heap_alloc_new w _
      have hst2 : ¬ (65536 : Int) < (s.size : Int) + (t.size : Int) := by omega
      have hlt0 : w.heap.size < (w.alloc (.cells #[.int .i64 x, .int .i64 y, .int .i64 z] 38)).heap.size := by simp
      have HBOX := Lib.hid hbox
      have HH := Lib.hid hh
      clear hbox hh hn
      go_enter Try.func4, Try.ntmps4
      go_wp2_with fail
      generalize w.alloc (.cells #[.int .i64 x, .int .i64 y, .int .i64 z] 38) = w0 at *
      refine (new_disk 1048576 (by omega) (by omega) w0).mono ?_
      rintro e w1 ⟨rfl, hD1, hK1⟩
      have hx0 : ∀ o, w1.cell? ⟨w.heap.size, o, none⟩ = #[Value.int .i64 x, .int .i64 y, .int .i64 z][o]? := fun o =>
        (World.cell?_of_block (a := ⟨w.heap.size, o, none⟩) (hK1.block _ hlt0)).trans (cell_of_row _ _ _ _ _ _ HH.out)
      have c0 : w1.cell? ⟨w.heap.size, 0, none⟩ = some (.int .i64 x) := hx0 0
      have c1 : w1.cell? ⟨w.heap.size, 1, none⟩ = some (.int .i64 y) := hx0 1
      have HK1 := Lib.hid hK1
      clear hD1 hK1 hx0
      go_wp2_with fail
      go_quiet (fail)
      go_wp2_with fail
      refine (awake_any _).mono ?_
      rintro e w8 ⟨rfl, hb8⟩
      have hbel := HBOX.out.trans ((HK1.out.drewN nq).below (B := w.heap.size) (fun x hx => Nat.lt_trans hx hlt0))
      go_wp2_with fail
      go_ret
      exact ⟨rfl, hbel.trans (hb8.mono hbel.size)⟩
    · exact swaps_main s t x y z A B n (n % 2) hA hB hn (and1_nat n hn2) rfl hA2 hB2 hn2 hAB hst w
  · have hbox : Below w.heap.size w (w.alloc (.cells #[.int .i64 x, .int .i64 y, .int .i64 z] 38)) := (Below.refl _ _).alloc (Nat.le_refl _) _
    have hst2 : (65536 : Int) < (s.size : Int) + (t.size : Int) := by omega
    have hlt0 : w.heap.size < (w.alloc (.cells #[.int .i64 x, .int .i64 y, .int .i64 z] 38)).heap.size := by simp
    have HBOX := Lib.hid hbox
    clear hbox hA hB hn
    go_enter Try.func4, Try.ntmps4
    go_wp2_with fail
    generalize w.alloc (.cells #[.int .i64 x, .int .i64 y, .int .i64 z] 38) = w0 at *
    refine (new_disk 1048576 (by omega) (by omega) w0).mono ?_
    rintro e w1 ⟨rfl, hD1, hK1⟩
    have HK1 := Lib.hid hK1
    clear hD1 hK1
    go_wp2_with fail
    refine (awake_any _).mono ?_
    rintro e w8 ⟨rfl, hb8⟩
    have hbel := HBOX.out.trans (HK1.out.below (B := w.heap.size) (fun x hx => Nat.lt_trans hx hlt0))
    go_wp2_with fail
    go_ret
    exact ⟨rfl, hbel.trans (hb8.mono hbel.size)⟩
end Go.Proofs.Ytgcghdinccdphaa
