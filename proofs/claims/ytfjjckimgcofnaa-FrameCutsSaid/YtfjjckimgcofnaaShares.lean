/-
  The function shares of package sums: it returns the table whose entry i is F i (eight steps of the sum on i); it writes nothing that was there. No condition.
-/
import Derived.Test.YtfjjckimgcofnaaProg
import Derived.Test.YtfjjckimgcofnaaCrc
import Derived.WalkKit
import Derived.WalkLawsBesides
import Derived.WalkSpells
import Derived.Lib.Hide
namespace Go.Proofs.Ytfjjckimgcofnaa
open Go.RowKit

/-- a variable of an array's or struct's type: its zero, by the program's own table -/
theorem wpList_alloc_row {P : Program} {ops : Array Oper} {rest : List Oper} {o : Oper} {a : Act} {w : World} {Q : Exit → Act → World → Prop} (hgd : o.guard = none) (ty : TypeId) (ho : o.op = .alloc ty)
    (cs : Array Value) (hz : (P.info? ty).map (·.zero) = some (some (.agg cs)))
    (h : wpList P ops Q rest (a.put o.dst (.pointer (some ⟨w.heap.size, 0, none⟩))) (w.alloc (.cells cs ty))) : wpList P ops Q (o :: rest) a w :=
  wpList_plain hgd fun _ hK => by
    cases hq : P.info? ty with
    | none => simp [hq] at hz
    | some i =>
      have hz' : i.zero = some (.agg cs) := by simpa [hq] using hz
      unfold Oper.wp execOp
      simp [go_sem, ho, Instr.alloc, zeroValue, typeInfo, newVar, newRow, hq, hz', Value.cells]
      exact hK _ _ h


def zeros : Array Value := Array.replicate 256 (.int .u32 0)
theorem info45 : (Try.prog.info? 45).map (·.zero) = some (some (.agg zeros)) := by kernel_rfl
theorem size45 : (Try.prog.info? 45).map (·.size) = some 256 := by kernel_rfl


def halves : Nat → Nat → Nat
  | 0, c => c
  | m + 1, c => Crc.half (halves m c)
def Tab (k : Nat) (cs : Array Value) : Prop := cs.size = 256 ∧ ∀ j, j < k → cs[j]? = some (.int .u32 (Crc.F j))


theorem halves_lt (m k : Nat) (h : k < 4294967296) : halves m k < 4294967296 := by
  induction m with
  | zero => exact h
  | succ m ih => exact Crc.half_lt ih
theorem half_bits (c : Nat) (h : c < 4294967296) :
    bits .xor .u32 ((c : Int) / 2) (bits .and .u32 (c : Int) 1 * 2197175160 % 4294967296) = ((Crc.half c : Nat) : Int) := by
  have e1 : bits .and .u32 (c : Int) 1 = ((c % 2 : Nat) : Int) := by
    have := u32_and_nat c 1 h (by decide)
    rw [nat_mask1] at this
    exact this
  rw [e1]
  unfold Crc.half
  by_cases ho : c % 2 = 1
  · rw [if_pos ho, ho]
    have e2 : ((1 : Nat) : Int) * 2197175160 % 4294967296 = ((2197175160 : Nat) : Int) := by decide
    have e3 : (c : Int) / 2 = ((c / 2 : Nat) : Int) := by omega
    rw [e2, e3, u32_xor_nat _ _ (by omega) (by omega)]
  · rw [if_neg ho, show c % 2 = 0 by omega]
    have e2 : ((0 : Nat) : Int) * 2197175160 % 4294967296 = ((0 : Nat) : Int) := by decide
    have e3 : (c : Int) / 2 = ((c / 2 : Nat) : Int) := by omega
    rw [e2, e3, u32_xor_nat _ _ (by omega) (by omega), Nat.xor_zero]
theorem u32_eq {a b : Int} (h : a = b) : Value.int .u32 a = .int .u32 b := by rw [h]
theorem Tab.snoc {k : Nat} {cs : Array Value} (h : Tab k cs) (hk : k < 256) : Tab (k + 1) (cs.setIfInBounds k (.int .u32 (halves 8 k))) := by
  refine ⟨by rw [Array.size_setIfInBounds]; exact h.1, fun j hj => ?_⟩
  rw [Array.getElem?_setIfInBounds]
  by_cases e : k = j
  · subst e; rw [if_pos rfl, if_pos (by rw [h.1]; exact hk)]; rfl
  · rw [if_neg e]; exact h.2 j (by omega)
def One (cs : Array Value) : Prop := cs.all (·.oneCell') = true
theorem Tab.one {cs : Array Value} (h : Tab 256 cs) : One cs := by
  unfold One
  rw [Array.all_eq_true]
  intro i hi
  have h2 := h.2 i (by have := h.1; omega)
  rw [Array.getElem?_eq_getElem hi] at h2
  injection h2 with h2
  rw [h2]; rfl

theorem below_setRow {B : Nat} {a w : World} (h : Below B a w) {g : Nat} (hg : B ≤ g) (cs : Array Value) : Below B a (w.setRow g cs) :=
  h.trans ⟨rfl, rfl, rfl, by simp, fun k hk => setRow_other w g k cs (by omega)⟩

set_option maxRecDepth 100000 in
/-- the table of shares -/
theorem shares_any (w : World) : Calls Try.prog 25 #[] w fun e w' => ∃ cs : Array Value, e = .returned (.agg cs) ∧ Tab 256 cs ∧ Below w.heap.size w w' := by
  go_enter Try.func25, Try.ntmps25
  go_wp2_with (refine wpList_alloc_row rfl 45 rfl zeros info45 ?_)
  go_loopw [4] (fun i wr => ∃ (k : Nat) (cs : Array Value), k ≤ 256 ∧ i = .int .i64 k ∧ Tab k cs ∧ wr = (w.alloc (.cells zeros 45)).alloc (.cells cs 45)) (fun i _ => 256 - (intOf i).toNat)
  case atStart => exact ⟨0, zeros, by omega, rfl, ⟨by unfold zeros; simp, fun j hj => absurd hj (by omega)⟩, rfl⟩
  case round =>
    obtain ⟨k, cs, hk, rfl, htab, rfl⟩ := hrel
    by_cases hlt : k < 256
    · have hk1 : k < 4294967296 := by omega
      go_wp2_with fail
      go_loopw [3, 9] (fun c i wr => ∃ (m : Nat), m ≤ 8 ∧ i = .int .i64 m ∧ c = .int .u32 (halves m k) ∧ wr = (w.alloc (.cells zeros 45)).alloc (.cells cs 45)) (fun _ i _ => 8 - (intOf i).toNat)
      case atStart => exact ⟨0, by omega, rfl, rfl, rfl⟩
      case round =>
        obtain ⟨m, hm, rfl, rfl, rfl⟩ := hrel
        by_cases hlt : m < 8
        · go_wp2_with fail
          go_roundw
          case rel => exact ⟨m + 1, by omega, by go_num, u32_eq (half_bits _ (halves_lt m k hk1)), trivial⟩
          case measure => simp [intOf]; omega
        · obtain rfl : m = 8 := by omega
          obtain ⟨v, hv⟩ : ∃ v, cs[k]? = some v := ⟨_, Array.getElem?_eq_getElem (by have := htab.1; omega)⟩
          go_wp2_with fail
          go_roundw
          case rel => exact ⟨k + 1, _, by omega, by go_num, htab.snoc (by omega), rfl⟩
          case measure => simp [intOf]; omega
    · obtain rfl : k = 256 := by omega
      have hone := htab.one
      have hs : some 256 = some cs.size := by rw [htab.1]
      go_wp2_with (first | (refine wpList_load_row rfl 45 _ rfl _ rfl _ _ _ _ (heap_alloc2_new _ _ _) Try.underlying45 rfl (size45.trans hs) ?_) | (refine wpList_store_row rfl 45 _ _ rfl _ _ rfl rfl _ _ (heap_alloc2_old _ _ _) (size45.trans hs) (by rw [htab.1]; unfold zeros; simp) hone ?_))
      refine bodyPost_ret (results_cell_row (fn := Try.f25) rfl _ _ w.heap.size 45 cs (0, 0) _ rfl (setRow_heap _ _ zeros cs 45 (0, 0) (heap_alloc2_old _ _ _)) Try.underlying45 rfl (size45.trans hs)) rfl ⟨cs, rfl, htab, ?_⟩
      exact below_setRow (((Below.refl _ _).alloc (Nat.le_refl _) _).alloc (by simp) _) (Nat.le_refl _) _
end Go.Proofs.Ytfjjckimgcofnaa
