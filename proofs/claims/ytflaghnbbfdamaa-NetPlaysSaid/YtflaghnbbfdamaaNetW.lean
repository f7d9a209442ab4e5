/-
  The law NetWays: ways do not know of one another.
-/
import Derived.Test.YtflaghnbbfdamaaNetI
import Derived.RegionTactic
import Derived.BigRegion
import Derived.RegionCalls
import Derived.Deep.QuietTactic
import Derived.BigQuiet
import Derived.Deep.RegionWith
import Derived.LoopTactic
import Derived.Deep.LoopGhost
namespace Go.Proofs.Ytflaghnbbfdamaa
open Go.RowKit

theorem i64_mask (n : Int) (k : Nat) (m : Int) (hm : (BitVec.ofInt 64 m).toNat = 2 ^ k - 1) (hk : k ≤ 16) : bits .and .i64 n m = ((n % ((2 ^ 64 : Nat) : Int)).toNat % 2 ^ k : Nat) := by
  have key : (BitVec.ofInt 64 n &&& BitVec.ofInt 64 m).toNat = (n % ((2 ^ 64 : Nat) : Int)).toNat % 2 ^ k := by
    rw [BitVec.toNat_and, BitVec.toNat_ofInt, hm, Nat.and_two_pow_sub_one_eq_mod]
  show IntKind.i64.wrap ((BitVec.ofInt 64 n &&& BitVec.ofInt 64 m).toNat : Nat) = _
  rw [key, IntKind.wrap_i64]
  have h1 : (n % ((2 ^ 64 : Nat) : Int)).toNat % 2 ^ k < 2 ^ k := Nat.mod_lt _ (Nat.two_pow_pos k)
  have h2 : 2 ^ k ≤ 2 ^ 16 := Nat.pow_le_pow_right (by omega) hk
  omega
theorem and15 (n : Int) : ∃ k : Nat, k < 16 ∧ bits .and .i64 n 15 = (k : Nat) := ⟨_, Nat.mod_lt _ (by decide), i64_mask n 4 15 (by decide) (by omega)⟩
theorem and7 (n : Int) : ∃ k : Nat, k < 8 ∧ bits .and .i64 n 7 = (k : Nat) := ⟨_, Nat.mod_lt _ (by decide), i64_mask n 3 7 (by decide) (by omega)⟩
theorem Net.mono {w : World} {g most n k : Nat} {N : Nat → Prop} {L : List Lt} (h : Net w g N most n L) (hk : n ≤ k) : Net w g N most k L := by
  obtain ⟨V, m, h⟩ := h
  exact ⟨V, m, h.c0, h.c1, h.c2, h.free, h.row, h.mp.mono hk, h.mg, h.mine, h.minem, h.mines, h.lt, h.most1, h.most2, h.good⟩
theorem ct_snoc (L : List Lt) (f t : Int) (s : ByteArray) (x y : Int) : ct (L ++ [(f, t, s)]) x y = ct L x y + if x = f ∧ y = t then 1 else 0 := by
  have := congrFun (congrFun (ct_append L f t s) x) y
  simp only [upd2] at this
  split at this <;> rename_i e
  · rw [if_pos e]; obtain ⟨rfl, rfl⟩ := e; omega
  · rw [if_neg e]; omega

theorem info3 : (Try.prog.info? 3).map (fun i => (i.zero, i.size, i.bytes)) = some (some (.int .i64 0), 1, 8) := by kernel_rfl
def row64 : Array Value := madeCells #[.int .i64 0] (64 * 1)
theorem row64_get (j : Nat) (hj : j < 64) : row64[j]? = some (.int .i64 0) := by
  unfold row64 madeCells
  simp [hj, Nat.mod_one]
theorem make_64 (W : World) : (Instr.makeSlice 22 (.int .i64 64) (.int .i64 64)).run Try.prog W = .ok (.slice (some ⟨W.heap.size, 0, none⟩) 64 64) (W.alloc (.cells row64 3)) := by
  obtain ⟨i0, hi, hz0, hz1, hz2⟩ := info_parts info3
  have := run_make (P := Try.prog) W 22 3 i0 (.int .i64 0) Try.underlying22 hi hz0 .i64 .i64 64 64 (by omega) (by omega) (by rw [hz2]; omega) (by omega)
  rw [hz1] at this
  exact this

structure Wy (w wr : World) (g h k i : Nat) (N : Nat → Prop) (L : List Lt) : Prop where
  net : Net wr g N k i L
  hv : ∀ x y : Nat, x < 8 → y < 8 → wr.cell? ⟨h, 8 * x + y, none⟩ = some (.int .i64 ((ct L x y : Nat) : Int))
  hf : ∀ o, wr.frozen? ⟨h, o, none⟩ = false
  nh : N h
  no : ∀ z, z < w.heap.size → N z
  hw : w.heap.size ≤ h
  len : L.length ≤ i
  kept : Kept (fun z => z < w.heap.size) w wr
theorem Wy.put {w wr w2 : World} {g h k i x y : Nat} {N : Nat → Prop} {L : List Lt} {s : ByteArray} (H : Wy w wr g h k i N L) (hx : x < 8) (hy : y < 8) (hn : Net w2 g N k (i + 1) (L ++ [((x : Int), (y : Int), s)])) (hk : Kept N wr w2) :
    Wy w (w2.setCell ⟨h, 8 * x + y, none⟩ (.int .i64 (((ct L x y : Nat) : Int) + 1))) g h k (i + 1) N (L ++ [((x : Int), (y : Int), s)]) := by
  have hh := hk.block h H.nh
  refine ⟨hn.store (p := ⟨h, 8 * x + y, none⟩) H.nh _, fun u v hu hv => ?_, fun o => ?_, H.nh, H.no, H.hw, by simp; have := H.len; omega, ?_⟩
  · rw [ct_snoc]
    by_cases e : u = x ∧ v = y
    · obtain ⟨rfl, rfl⟩ := e
      rw [if_pos ⟨rfl, rfl⟩, World.cell?_setCell_same (h := (World.cell?_of_block (a := ⟨h, 8 * u + v, none⟩) hh).trans (H.hv u v hu hv))]
      rfl
    · rw [if_neg (by omega), Nat.add_zero, World.cell?_setCell_other (h := by simp <;> omega)]
      exact (World.cell?_of_block (a := ⟨h, 8 * u + v, none⟩) hh).trans (H.hv u v hu hv)
  · rw [World.frozen?_setCell]
    exact (World.frozen?_of_block (a := ⟨h, o, none⟩) hh).trans (H.hf o)
  · exact (H.kept.trans (hk.less fun z hz => H.no z hz)).setCell (p := ⟨h, 8 * x + y, none⟩) (by show ¬ h < w.heap.size; have := H.hw; omega) _
theorem Wy.drew {w wr : World} {g h k i : Nat} {N : Nat → Prop} {L : List Lt} (H : Wy w wr g h k i N L) : Wy w wr.drew g h k i N L :=
  ⟨H.net.drew, H.hv, H.hf, H.nh, H.no, H.hw, H.len, H.kept.drew⟩
theorem Wy.drewN {w wr : World} {g h k i : Nat} {N : Nat → Prop} {L : List Lt} (H : Wy w wr g h k i N L) (n : Nat) : Wy w (wr.drewN n) g h k i N L :=
  ⟨H.net.drewN n, H.hv, H.hf, H.nh, H.no, H.hw, H.len, H.kept.drewN n⟩
theorem Wy.full {w wr w2 : World} {g h k i : Nat} {N : Nat → Prop} {L : List Lt} (H : Wy w wr g h k i N L) (hb : Below wr.heap.size wr w2) : Wy w w2 g h k (i + 1) N L := by
  have hk : Kept N wr w2 := Kept.of_below hb H.net.lt
  have hh := hk.block h H.nh
  exact ⟨((H.net.below hb).less fun z hz => .inl hz).mono (Nat.le_succ i), fun u v hu hv => (World.cell?_of_block (a := ⟨h, 8 * u + v, none⟩) hh).trans (H.hv u v hu hv), fun o => (World.frozen?_of_block (a := ⟨h, o, none⟩) hh).trans (H.hf o),
    H.nh, H.no, H.hw, by have := H.len; omega, H.kept.trans (hk.less fun z hz => H.no z hz)⟩
def Way (w : World) (a : Option Addr) (i : Nat) : Prop := ∃ (b o : Nat) (x y : Int), a = some ⟨b, o, none⟩ ∧ b < w.heap.size ∧ w.cell? ⟨b, o + i * 2, none⟩ = some (.int .i64 x) ∧ w.cell? ⟨b, o + i * 2 + 1, none⟩ = some (.int .i64 y)

set_option maxRecDepth 100000 in
set_option maxHeartbeats 6400000 in
theorem ways_main (most : Int) (a : Option Addr) (n c : Nat) (w : World) (hc : ∀ i, i < n → Way w a i) (hn : n ≤ 9223372036854775807) :
    Calls Try.prog 4 #[.int .i64 most, .slice a n c] w fun e w' => e = .returned (.bool true) ∧ Below w.heap.size w w' := by
  obtain ⟨k0, hk0, hand⟩ := and15 most
  have HC := Lib.hid hc
  obtain ⟨m, hm⟩ : ∃ m, m = min n 200 := ⟨_, rfl⟩
  have hmn : m ≤ n := by omega
  have hm200 : m ≤ 200 := by omega
  have HMY := Lib.hid (show m < n → m = 200 by omega)
  obtain ⟨k, hk⟩ : ∃ k, k = k0 + 1 := ⟨_, rfl⟩
  have hk1 : 1 ≤ k := by omega
  have hk16 : k ≤ 16 := by omega
  have hke : (1 : Int) + (k0 : Int) = (k : Nat) := by omega
  have HN := Lib.hid (new_ok k hk1 (by omega) w)
  clear hc hm hk hk0
  go_enter Try.func4, Try.ntmps4
  go_wp2_with fail
  refine (HN.out).mono ?_
  rintro e w1 ⟨rfl, hnet, hb1⟩
  have hmk := make_64 w1
  obtain ⟨g, hg⟩ : ∃ g, g = w.heap.size + 1 := ⟨_, rfl⟩
  rw [← hg] at hnet
  rw [← hg]
  have hb2 : Below w1.heap.size w1 (w1.alloc (.cells row64 3)) := (Below.refl _ _).alloc (Nat.le_refl _) _
  have hh : (w1.alloc (.cells row64 3)).heap[w1.heap.size]? = some (.cells row64 3 (0, 0)) := heap_alloc_new w1 _
  have hlt : w1.heap.size < (w1.alloc (.cells row64 3)).heap.size := by simp
  have hwy : Wy w (w1.alloc (.cells row64 3)) g w1.heap.size k 0 (NN (fun b => b < w.heap.size) w1 (w1.alloc (.cells row64 3))) [] :=
    ⟨hnet.below hb2, fun x y hx hy => by rw [cell_of_row _ _ _ _ _ _ hh, row64_get _ (by omega)]; rfl, fun o => frozen_of_row _ _ _ _ _ hh, .inr ⟨Nat.le_refl _, hlt⟩, fun z hz => .inl hz, hb1.size, Nat.le_refl _,
      (Kept.of_below hb1 (fun z hz => hz)).trans (Kept.of_below hb2 (fun z hz => Nat.lt_of_lt_of_le hz hb1.size))⟩
  have HWY := Lib.hid hwy
  clear hwy hlt hh hb2 hnet hb1 hg HN hke
  go_wp2_with fail
  generalize w1.alloc (.cells row64 3) = w2 at *
  generalize w1.heap.size = h at *
  clear hmk
  go_loopw [9, 10] (fun all v wr => ∃ (i : Nat) (N : Nat → Prop) (L : List Lt), i ≤ m ∧ v = .int .i64 i ∧ all = .int .i64 (L.length : Nat) ∧ Hid (Wy w wr g h k i N L)) (fun _ v _ => m - (intOf v).toNat)
  case atStart => exact ⟨0, _, [], by omega, rfl, rfl, HWY.out⟩
  case round =>
    clear HWY
    obtain ⟨i, N, L, hi, rfl, rfl, HY⟩ := hrel
    by_cases hlt : i < m
    · obtain ⟨b, o, x, y, rfl, hb, hx, hy⟩ := HC.out i (by omega)
      have x0 : wr.cell? ⟨b, o + i * 2, none⟩ = some (.int .i64 x) := (World.cell?_of_block (a := ⟨b, o + i * 2, none⟩) (HY.out.kept.block b hb)).trans hx
      have y0 : wr.cell? ⟨b, o + i * 2 + 1, none⟩ = some (.int .i64 y) := (World.cell?_of_block (a := ⟨b, o + i * 2 + 1, none⟩) (HY.out.kept.block b hb)).trans hy
      obtain ⟨X, hX8, hX⟩ := and7 x
      obtain ⟨Y, hY8, hY⟩ := and7 y
      have i0 : (0 : Int) ≤ (i : Int) := by omega
      have i1 : (i : Int) < (n : Int) := by omega
      have i2 : (i : Int) < 200 := by omega
      obtain ⟨q, hq⟩ : ∃ q, q = 8 * X + Y := ⟨_, rfl⟩
      have hqi : (8 : Int) * (X : Int) + (Y : Int) = (q : Nat) := by omega
      have q0 : (0 : Int) ≤ (q : Int) := by omega
      have q1 : (q : Int) < 64 := by omega
      have HQ := Lib.hid hq
      have hll := HY.out.len
      have hgd : Good ((X : Int), (Y : Int), ⟨#[]⟩) := ⟨by simp <;> omega, by simp; omega, by simp <;> omega, by simp; omega, Nat.zero_le _⟩
      have HGD := Lib.hid hgd
      have HFX : Hid (Fits (X : Int)) := ⟨by omega, by omega⟩
      have HFY : Hid (Fits (Y : Int)) := ⟨by omega, by omega⟩
      clear hx hy hb hq hgd
      go_wp2_with fail
      go_quiet (fail)
      go_wp2_with fail
      by_cases hct : ct L X Y < k
      · have hcti : ((ct L X Y : Nat) : Int) < (k : Int) := by omega
        refine (put_ok (HY.out.net.drewN _) X Y ⟨#[]⟩ HGD.out hct (by omega) (by omega)).mono ?_
        rintro e w3 ⟨rfl, hn3, hk3⟩
        have hk3' := ((Kept.refl N wr).drewN nq).trans hk3
        have z3 := (World.cell?_of_block (a := ⟨h, 8 * X + Y, none⟩) (hk3'.block h HY.out.nh)).trans (HY.out.hv X Y hX8 hY8)
        have v3 := (World.frozen?_of_block (a := ⟨h, q, none⟩) (hk3'.block h HY.out.nh)).trans (HY.out.hf q)
        have hw4 := HY.out.put hX8 hY8 hn3 hk3'
        rw [← HQ.out] at z3 hw4
        have HW4 := Lib.hid hw4
        clear hw4 hn3 hk3 hk3' x0 y0
        go_wp2_with fail
        generalize w3.setCell ⟨h, q, none⟩ (.int .i64 (((ct L X Y : Nat) : Int) + 1)) = w4 at *
        have z4 : w4.cell? ⟨h, q, none⟩ = some (.int .i64 (((ct L X Y : Nat) : Int) + 1)) := by
          have := HW4.out.hv X Y hX8 hY8
          rw [← HQ.out, ct_snoc, if_pos ⟨rfl, rfl⟩] at this
          exact this
        have hbt : ∀ W, Net W g N k (i + 1) (L ++ [((X : Int), (Y : Int), ⟨#[]⟩)]) → Calls Try.prog 12 #[.pointer (some ⟨g, 0, none⟩), .int .i64 (X : Nat), .int .i64 (Y : Nat)] W fun e w' => e = .returned (.int .i64 (((ct L X Y : Nat) : Int) + 1)) ∧ W = w' := fun W hW => by
          have := between_ok hW X Y HFX.out HFY.out
          rw [ct_snoc, if_pos ⟨rfl, rfl⟩] at this
          exact this
        have hle : ∀ W, Net W g N k (i + 1) (L ++ [((X : Int), (Y : Int), ⟨#[]⟩)]) → Calls Try.prog 10 #[.pointer (some ⟨g, 0, none⟩)] W fun e w' => e = .returned (.int .i64 ((L.length : Nat) + 1)) ∧ W = w' := fun W hW => by
          have := len_ok hW
          simp only [List.length_append, List.length_singleton] at this
          exact this
        have HBT := Lib.hid hbt
        have HLE := Lib.hid hle
        clear hbt hle
        have hs1 : IntKind.i64.wrap ((8 : Int) * (X : Int)) = (8 : Int) * (X : Int) := IntWalk.i64_in _ (by omega)
        have hs3 : IntKind.i64.wrap ((q : Nat) : Int) = ((q : Nat) : Int) := IntWalk.i64_in _ (by omega)
        have hs2 : IntKind.i64.wrap ((8 : Int) * (X : Int) + (Y : Int)) = ((q : Nat) : Int) := by rw [hqi]; exact hs3
        go_region_held3 (fun w' => w'.cell? ⟨h, q, none⟩ = some (.int .i64 (((ct L X Y : Nat) : Int) + 1))) (go_keep)
          (first
            | (go_at_call 12; refine (HBT.out _ (by first | exact HW4.out.net.drew | exact HW4.out.net)).mono ?_; rintro e w5 ⟨rfl, rfl⟩)
            | (go_at_call 10; refine (HLE.out _ (by first | exact HW4.out.net.drew | exact HW4.out.net)).mono ?_; rintro e w5 ⟨rfl, rfl⟩))
        all_goals
          clear hs1 hs2 hs3
          go_wp2_with fail
          go_roundw
          case rel => exact ⟨i + 1, N, _, by omega, i64_eq (by omega), i64_eq (by simp), HW4.out.drew⟩
          case measure => simp [intOf]; omega
      · have hcti : ¬ ((ct L X Y : Nat) : Int) < (k : Int) := by omega
        refine (put_full (HY.out.net.drewN _) X Y ⟨#[]⟩ HGD.out (by omega)).mono ?_
        rintro e w4 ⟨rfl, hb4⟩
        have hw4 := (HY.out.drewN _).full hb4
        have HW4 := Lib.hid hw4
        clear hw4 hb4 x0 y0
        have z4 : w4.cell? ⟨h, q, none⟩ = some (.int .i64 ((ct L X Y : Nat) : Int)) := by
          have := HW4.out.hv X Y hX8 hY8
          rw [← HQ.out] at this
          exact this
        go_wp2_with fail
        have hbt : ∀ W, Net W g N k (i + 1) L → Calls Try.prog 12 #[.pointer (some ⟨g, 0, none⟩), .int .i64 (X : Nat), .int .i64 (Y : Nat)] W fun e w' => e = .returned (.int .i64 ((ct L X Y : Nat) : Int)) ∧ W = w' := fun W hW => by
          have := between_ok hW X Y HFX.out HFY.out
          exact this
        have hle : ∀ W, Net W g N k (i + 1) L → Calls Try.prog 10 #[.pointer (some ⟨g, 0, none⟩)] W fun e w' => e = .returned (.int .i64 (L.length : Nat)) ∧ W = w' := fun W hW => by
          have := len_ok hW
          exact this
        have HBT := Lib.hid hbt
        have HLE := Lib.hid hle
        clear hbt hle
        have hs1 : IntKind.i64.wrap ((8 : Int) * (X : Int)) = (8 : Int) * (X : Int) := IntWalk.i64_in _ (by omega)
        have hs3 : IntKind.i64.wrap ((q : Nat) : Int) = ((q : Nat) : Int) := IntWalk.i64_in _ (by omega)
        have hs2 : IntKind.i64.wrap ((8 : Int) * (X : Int) + (Y : Int)) = ((q : Nat) : Int) := by rw [hqi]; exact hs3
        go_region_held3 (fun w' => w'.cell? ⟨h, q, none⟩ = some (.int .i64 ((ct L X Y : Nat) : Int))) (go_keep)
          (first
            | (go_at_call 12; refine (HBT.out _ (by first | exact HW4.out.net.drew | exact HW4.out.net)).mono ?_; rintro e w5 ⟨rfl, rfl⟩)
            | (go_at_call 10; refine (HLE.out _ (by first | exact HW4.out.net.drew | exact HW4.out.net)).mono ?_; rintro e w5 ⟨rfl, rfl⟩))
        all_goals
          clear hs1 hs2 hs3
          go_wp2_with fail
          go_roundw
          case rel => exact ⟨i + 1, N, _, by omega, i64_eq (by omega), rfl, HW4.out.drew⟩
          case measure => simp [intOf]; omega
    · obtain rfl : i = m := by omega
      have hguard : (¬ (i : Int) < (n : Int)) ∨ ((i : Int) < (n : Int) ∧ ¬ (i : Int) < 200) := by
        by_cases h : i < n
        · right
          have := HMY.out h
          subst this
          simp; omega
        · left; omega
      rcases hguard with g1 | ⟨g1, g2⟩
      all_goals
        go_wp2_with fail
        refine (awake_any _).mono ?_
        rintro e w8 ⟨rfl, hb8⟩
        go_wp2_with fail
        go_ret
        have hbel := HY.out.kept.below (B := w.heap.size) (fun x hx => hx)
        exact ⟨rfl, hbel.trans (hb8.mono hbel.size)⟩
end Go.Proofs.Ytflaghnbbfdamaa
