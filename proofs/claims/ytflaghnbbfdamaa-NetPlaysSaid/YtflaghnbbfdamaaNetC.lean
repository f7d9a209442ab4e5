/-
  way, Len, Between, place.
-/
import Derived.Test.YtflaghnbbfdamaaNetB
namespace Go.Proofs.Ytflaghnbbfdamaa
open Go.RowKit

set_option maxHeartbeats 1600000 in
theorem way_any (f t : Int) (s : ByteArray) (w : World) : Calls Try.prog 18 #[.agg #[.int .i64 f, .int .i64 t, .string s]] w fun e w' => e = .returned (pair f t) ∧ Below w.heap.size w w' := by
  go_enter Try.func18, Try.ntmps18
  have h2 := heap_alloc_new (w.alloc (.cells #[.int .i64 f, .int .i64 t, .string s] 30)) (.cells #[.int .i64 f, .int .i64 t] 38)
  rw [show (w.alloc (.cells #[.int .i64 f, .int .i64 t, .string s] 30)).heap.size = w.heap.size + 1 by simp] at h2
  have c0 := cell_of_row _ _ 0 _ _ _ h2
  have c1 := cell_of_row _ _ 1 _ _ _ h2
  have hb : Below w.heap.size w ((w.alloc (.cells #[.int .i64 f, .int .i64 t, .string s] 30)).alloc (.cells #[.int .i64 f, .int .i64 t] 38)) := ((Below.refl _ _).alloc (Nat.le_refl _) _).alloc (by simp) _
  go_wp2_with fail
  refine bodyPost_ret (v := pair f t) (by unfold pair; simp [results, Try.results18, go_sem, c0, c1]) rfl ⟨rfl, hb⟩
theorem len_nil (w : World) : Calls Try.prog 10 #[.pointer none] w fun e w' => e = .returned (.int .i64 0) ∧ w = w' := by
  have HG := given_nil w
  go_enter Try.func10, Try.ntmps10
  go_wp2_with fail
  refine HG.mono ?_
  rintro e w1 ⟨rfl, rfl⟩
  go_wp2_with fail
  go_ret
  exact ⟨rfl, rfl⟩
theorem len_zero (g : Nat) (w : World) (h : w.cell? ⟨g, 0, none⟩ = some (.int .i64 0)) : Calls Try.prog 10 #[.pointer (some ⟨g, 0, none⟩)] w fun e w' => e = .returned (.int .i64 0) ∧ w = w' := by
  have HG := given_zero g w h
  go_enter Try.func10, Try.ntmps10
  go_wp2_with fail
  refine HG.mono ?_
  rintro e w1 ⟨rfl, rfl⟩
  go_wp2_with fail
  go_ret
  exact ⟨rfl, rfl⟩
theorem between_nil (x y : Int) (w : World) : Calls Try.prog 12 #[.pointer none, .int .i64 x, .int .i64 y] w fun e w' => e = .returned (.int .i64 0) ∧ w = w' := by
  have HG := given_nil w
  go_enter Try.func12, Try.ntmps12
  go_wp2_with fail
  refine HG.mono ?_
  rintro e w1 ⟨rfl, rfl⟩
  go_wp2_with fail
  go_ret
  exact ⟨rfl, rfl⟩
theorem between_zero (g : Nat) (x y : Int) (w : World) (h : w.cell? ⟨g, 0, none⟩ = some (.int .i64 0)) : Calls Try.prog 12 #[.pointer (some ⟨g, 0, none⟩), .int .i64 x, .int .i64 y] w fun e w' => e = .returned (.int .i64 0) ∧ w = w' := by
  have HG := given_zero g w h
  go_enter Try.func12, Try.ntmps12
  go_wp2_with fail
  refine HG.mono ?_
  rintro e w1 ⟨rfl, rfl⟩
  go_wp2_with fail
  go_ret
  exact ⟨rfl, rfl⟩
section
variable {w : World} {g most n : Nat} {N : Nat → Prop} {L : List Lt}
theorem len_ok (h : Net w g N most n L) : Calls Try.prog 10 #[.pointer (some ⟨g, 0, none⟩)] w fun e w' => e = .returned (.int .i64 (L.length : Nat)) ∧ w = w' := by
  obtain ⟨V, m, h⟩ := h
  obtain ⟨a, c, rfl, _, _, _⟩ := h.slice
  have HG := given_ok h.c0 h.most1
  have c1 := h.c1
  clear h
  go_enter Try.func10, Try.ntmps10
  go_wp2_with fail
  refine HG.mono ?_
  rintro e w1 ⟨rfl, rfl⟩
  go_wp2_with fail
  go_ret
  exact ⟨rfl, rfl⟩
theorem between_ok (h : Net w g N most n L) (x y : Int) (hx : Fits x) (hy : Fits y) : Calls Try.prog 12 #[.pointer (some ⟨g, 0, none⟩), .int .i64 x, .int .i64 y] w fun e w' => e = .returned (.int .i64 (ct L x y : Nat)) ∧ w = w' := by
  obtain ⟨V, m, h⟩ := h
  have HG := given_ok h.c0 h.most1
  have c2 := h.c2
  have hl := (h.mp.look hx hy).1
  unfold pair at hl
  clear h
  go_enter Try.func12, Try.ntmps12
  go_wp2_with fail
  refine HG.mono ?_
  rintro e w1 ⟨rfl, rfl⟩
  go_wp2_with fail
  go_ret
  exact ⟨rfl, rfl⟩
end
/-- the place of a number among so many -/
def plc (k : Int) (n : Nat) : Nat := (k % 18446744073709551616).toNat % n
theorem plc_lt (k : Int) {n : Nat} (h : 0 < n) : plc k n < n := Nat.mod_lt _ h
theorem plc_eq (k : Int) (n : Nat) (h : 0 < n) (h2 : n ≤ 1000000) : wrap64 ((IntKind.u64.wrap k).tmod (n : Int)) = (plc k n : Nat) := by
  have h1 : IntKind.u64.wrap k = ((k % 18446744073709551616).toNat : Nat) := by
    show k % 18446744073709551616 = _
    omega
  have h3 := plc_lt k h
  rw [h1, ← Int.ofNat_tmod]
  have h4 : (((k % 18446744073709551616).toNat % n : Nat) : Int) = (plc k n : Nat) := rfl
  rw [h4]
  unfold wrap64
  omega
theorem place_nil (k : Int) (w : World) : Calls Try.prog 19 #[.pointer none, .int .i64 k] w fun e w' => e = .returned (.tuple #[.int .i64 0, .bool false]) ∧ w = w' := by
  have HG := given_nil w
  go_enter Try.func19, Try.ntmps19
  go_wp2_with fail
  refine HG.mono ?_
  rintro e w1 ⟨rfl, rfl⟩
  go_wp2_with fail
  go_ret2
  exact ⟨rfl, rfl⟩
theorem place_zero (g : Nat) (k : Int) (w : World) (h : w.cell? ⟨g, 0, none⟩ = some (.int .i64 0)) : Calls Try.prog 19 #[.pointer (some ⟨g, 0, none⟩), .int .i64 k] w fun e w' => e = .returned (.tuple #[.int .i64 0, .bool false]) ∧ w = w' := by
  have HG := given_zero g w h
  go_enter Try.func19, Try.ntmps19
  go_wp2_with fail
  refine HG.mono ?_
  rintro e w1 ⟨rfl, rfl⟩
  go_wp2_with fail
  go_ret2
  exact ⟨rfl, rfl⟩
theorem place_none {w : World} {g most n : Nat} {N : Nat → Prop} (h : Net w g N most n []) (k : Int) : Calls Try.prog 19 #[.pointer (some ⟨g, 0, none⟩), .int .i64 k] w fun e w' => e = .returned (.tuple #[.int .i64 0, .bool false]) ∧ w = w' := by
  obtain ⟨V, m, h⟩ := h
  obtain ⟨a, c, rfl, _, _, _⟩ := h.slice
  have HG := given_ok h.c0 h.most1
  have c1 := h.c1
  clear h
  go_enter Try.func19, Try.ntmps19
  go_wp2_with fail
  refine HG.mono ?_
  rintro e w1 ⟨rfl, rfl⟩
  go_wp2_with fail
  go_ret2
  exact ⟨rfl, rfl⟩
theorem place_ok {w : World} {g most n : Nat} {N : Nat → Prop} {L : List Lt} (h : Net w g N most n L) (h0 : L ≠ []) (hl : L.length ≤ 1000000) (k : Int) :
    Calls Try.prog 19 #[.pointer (some ⟨g, 0, none⟩), .int .i64 k] w fun e w' => e = .returned (.tuple #[.int .i64 (plc k L.length : Nat), .bool true]) ∧ w = w' := by
  obtain ⟨V, m, h⟩ := h
  obtain ⟨a, c, rfl, _, _, _⟩ := h.slice
  have HG := given_ok h.c0 h.most1
  have c1 := h.c1
  have hp : 0 < L.length := List.length_pos_iff.2 h0
  clear h h0
  have he : ((L.length : Int) == 0) = false := beq_eq_false_iff_ne.2 (by omega)
  go_enter Try.func19, Try.ntmps19
  go_wp2_with fail
  refine HG.mono ?_
  rintro e w1 ⟨rfl, rfl⟩
  go_wp2_with fail
  go_ret2
  refine ⟨?_, rfl⟩
  rw [plc_eq k L.length hp (by omega)]
  rfl
end Go.Proofs.Ytflaghnbbfdamaa
