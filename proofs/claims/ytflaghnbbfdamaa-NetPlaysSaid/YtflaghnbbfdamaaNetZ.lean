/-
  does of the laws of package net, at Take and Between; does at any call.
-/
import Derived.Test.YtflaghnbbfdamaaNetY
import Derived.Laws.StructEq
namespace Go.Proofs.Ytflaghnbbfdamaa
open Go.RowKit

theorem eq_same (f t : Int) (s : ByteArray) (w : World) : (binOp .eql 30 (.agg #[.int .i64 f, .int .i64 t, .string s]) (.agg #[.int .i64 f, .int .i64 t, .string s])).run Try.prog w = .ok (.bool true) w := by
  have hS : Try.prog.underlying 30 = some (.struct (Try.prog.fieldsOf 30)) := by kernel_rfl
  have hp : Try.prog.stoodInHeld 30 = false := by kernel_rfl
  rw [run_eql_struct, show (10000 : Nat) = 9999 + 1 from rfl, run_equalIn_agg w 9999 30 _ _ hS hp]
  simp only [Program.fieldsOf, Try.underlying30]
  go_simp

set_option maxRecDepth 100000 in
set_option maxHeartbeats 6400000 in
theorem does_between {w : World} {N : Nat → Prop} {g most n c : Nat} {a : Option Addr} {L : List Lt} (hD : Net w g N most n L) (hR : Rd w N a c L) (x y : Int) (s : ByteArray) (hx : Fits x) (hy : Fits y) (hL : L.length ≤ 100000) :
    Calls Try.prog 14 #[.pointer (some ⟨g, 0, none⟩), qv most a L.length c, .agg #[.int .i64 5, .int .i64 x, .int .i64 y, .string s]] w (DidPost w N g most (n + L.length + 1) fun L' => L'.length ≤ L.length + 1) := by
  have hbox := Dbx.new w most (.slice a L.length c) 5 x y s
  have hbel := below3 w (.cells #[.int .i64 (most : Nat), .slice a L.length c] 44) (.cells #[.int .i64 5, .int .i64 x, .int .i64 y, .string s] 48) (.cells #[.int .i64 0, .slice none 0 0] 44)
  have hbt : ∀ W, Below w.heap.size w W → Calls Try.prog 12 #[.pointer (some ⟨g, 0, none⟩), .int .i64 x, .int .i64 y] W fun e w' => e = .returned (.int .i64 (ct L x y : Nat)) ∧ W = w' := fun W hb => between_ok (hD.below hb) x y hx hy
  have hrb : ∀ W, Below w.heap.size w W → Calls Try.prog 25 #[qv most a L.length c, .int .i64 x, .int .i64 y] W fun e w' => e = .returned (.int .i64 (ct L x y : Nat)) ∧ Below W.heap.size W w' := fun W hb => rbetween_ok (hR.below hb) (by omega) x y
  have HBT := Lib.hid hbt
  have HRB := Lib.hid hrb
  have HR := Lib.hid hR
  have HD := Lib.hid hD
  obtain ⟨v0, v1⟩ := hbox.q
  obtain ⟨o0, o1, o2, o3⟩ := hbox.op
  obtain ⟨s0, s1⟩ := hbox.res
  have f0 := hbox.resf 0
  have f1 := hbox.resf 1
  have hlt3 := hbox.lt
  have HBX := Lib.hid hbox
  have HB1 := Lib.hid hbel
  clear hbt hrb hR hD hL hx hy hbox hbel
  generalize ct L x y = cc at *
  unfold qv at HRB ⊢
  go_enter Try.func14, Try.ntmps14
  go_wp2_with fail
  generalize ((w.alloc (.cells #[.int .i64 (most : Nat), .slice a L.length c] 44)).alloc (.cells #[.int .i64 5, .int .i64 x, .int .i64 y, .string s] 48)).alloc (.cells #[.int .i64 0, .slice none 0 0] 44) = w1 at *
  have hl0 : w.heap.size < w1.heap.size := by omega
  have hl1 : w.heap.size + 1 < w1.heap.size := by omega
  have hl2 : w.heap.size + 1 + 1 < w1.heap.size := by omega
  have n1 : ¬ w.heap.size = w.heap.size + 1 + 1 := by omega
  have n2 : ¬ w.heap.size + 1 = w.heap.size + 1 + 1 := by omega
  clear o0 o3
  go_region_held3 (fun w' => w'.cell? ⟨w.heap.size, 0, none⟩ = some (.int .i64 (most : Nat)) ∧ w'.cell? ⟨w.heap.size, 1, none⟩ = some (.slice a L.length c) ∧ w'.cell? ⟨w.heap.size + 1, 1, none⟩ = some (.int .i64 x) ∧ w'.cell? ⟨w.heap.size + 1, 2, none⟩ = some (.int .i64 y)) (go_keep)
    (first
      | (go_at_call 12; refine (HBT.out _ (by first | exact HB5.out | exact HB1.out.drew)).mono ?_; rintro e w4 ⟨rfl, rfl⟩)
      | (go_at_call 25; refine (HRB.out _ (HB1.out.drew)).mono ?_; rintro e w5 ⟨rfl, hb5⟩; have HB5 := Lib.hid (HB1.out.drew.trans (hb5.mono HB1.out.size)); have HX5 := Lib.hid (HBX.out.below ⟨hb5.os, hb5.tape, hb5.output, hb5.size, hb5.block⟩); have y0 := (hb5.cell (p := ⟨w.heap.size, 0, none⟩) hl0).trans v0; have y1 := (hb5.cell (p := ⟨w.heap.size, 1, none⟩) hl0).trans v1; have y2 := (hb5.cell (p := ⟨w.heap.size + 1, 1, none⟩) hl1).trans o1; have y3 := (hb5.cell (p := ⟨w.heap.size + 1, 2, none⟩) hl1).trans o2; have t0 := (hb5.cell (p := ⟨w.heap.size + 1 + 1, 0, none⟩) hl2).trans s0; have t1 := (hb5.cell (p := ⟨w.heap.size + 1 + 1, 1, none⟩) hl2).trans s1; have t2 := HX5.out.resf 0; have t3 := HX5.out.resf 1; have z0 := far2 (g := w.heap.size + 1 + 1) (u0 := .int .i64 (most : Nat)) (u1 := .slice a L.length c) y0 n1; have z1 := far2 (g := w.heap.size + 1 + 1) (u0 := .int .i64 (most : Nat)) (u1 := .slice a L.length c) y1 n1; have z2 := far2 (g := w.heap.size + 1 + 1) (u0 := .int .i64 (most : Nat)) (u1 := .slice a L.length c) y2 n2; have z3 := far2 (g := w.heap.size + 1 + 1) (u0 := .int .i64 (most : Nat)) (u1 := .slice a L.length c) y3 n2))
  all_goals
    go_wp2_with fail
    have hl5 := HX5.out.lt
    obtain ⟨p1, p2, p3⟩ := stored_did (wx := w5) (M := NN N w w5) (most := most) HD.out.lt (.inr ⟨by omega, by omega⟩) (HD.out.below HB5.out) ((HR.out.below HB5.out).more (fun z hz => .inl hz)) (HR.out.old _ (by omega)) (Kept.of_below HB5.out HD.out.lt)
    obtain ⟨c0, c1⟩ := st2_cells (most := most) (V := .slice a L.length c) HX5.out.b6
    refine bodyPost_ret (v := .tuple #[qv most a L.length c, .bool true]) ?_ rfl ⟨_, NN N w w5, _, L, rfl, fun z hz => .inl hz, p1, p2, p3, by omega, by omega⟩
    unfold st2 at c0 c1
    unfold qv
    simp [results, Try.results14, go_sem, c0, c1]

set_option maxRecDepth 100000 in
set_option maxHeartbeats 6400000 in
theorem does_take {w : World} {N : Nat → Prop} {g most n c : Nat} {a : Option Addr} {L : List Lt} (hD : Net w g N most n L) (hR : Rd w N a c L) (x y : Int) (s : ByteArray) (hL : L.length ≤ 100000) (hn : n ≤ 800000) :
    Calls Try.prog 14 #[.pointer (some ⟨g, 0, none⟩), qv most a L.length c, .agg #[.int .i64 2, .int .i64 x, .int .i64 y, .string s]] w (DidPost w N g most (n + L.length + 1) fun L' => L'.length = L.length - 1) := by
  obtain ⟨f, t, u, ok, L', hr1, hd1, hlen⟩ := take_pair hD x (by omega) (by omega)
  have hbox := Dbx.new w most (.slice a L.length c) 2 x y s
  have hbel := below3 w (.cells #[.int .i64 (most : Nat), .slice a L.length c] 44) (.cells #[.int .i64 2, .int .i64 x, .int .i64 y, .string s] 48) (.cells #[.int .i64 0, .slice none 0 0] 44)
  have HR1 := Lib.hid hr1
  have HD1 := Lib.hid hd1
  have HR := Lib.hid hR
  have HD := Lib.hid hD
  have HLEN := Lib.hid hlen
  have HBX := Lib.hid hbox
  have HB1 := Lib.hid hbel
  have hl1 := hbel.size
  have hlt1 := hbox.lt
  clear hr1 hd1 hR hD hL hn hlen hbox hbel
  unfold qv
  go_enter Try.func14, Try.ntmps14
  go_wp2_with fail
  generalize ((w.alloc (.cells #[.int .i64 (most : Nat), .slice a L.length c] 44)).alloc (.cells #[.int .i64 2, .int .i64 x, .int .i64 y, .string s] 48)).alloc (.cells #[.int .i64 0, .slice none 0 0] 44) = w1 at *
  refine (HD1.out w1 (NN N w w1) (HD.out.below HB1.out)).mono ?_
  rintro e w2 ⟨rfl, hD2, hK2⟩
  have hx2 := HBX.out.kept hK2 (fun z h1 h2 => .inr ⟨h1, by omega⟩)
  have hR2 := (HR.out.below HB1.out).kept (hK2.less fun z hz => .inl hz)
  have hl2 := hK2.size
  obtain ⟨v0, v1⟩ := hx2.q
  obtain ⟨o0, o1, o2, o3⟩ := hx2.op
  have hb3 : Below w2.heap.size w2 (w2.alloc (.cells #[.int .i64 f, .int .i64 t, .string u] 30)) := (Below.refl _ _).alloc (Nat.le_refl _) _
  have hh3 : (w2.alloc (.cells #[.int .i64 f, .int .i64 t, .string u] 30)).heap[w2.heap.size]? = some (.cells #[.int .i64 f, .int .i64 t, .string u] 30 (0, 0)) := heap_alloc_new w2 _
  have hs3 : (w2.alloc (.cells #[.int .i64 f, .int .i64 t, .string u] 30)).heap.size = w2.heap.size + 1 := by simp
  have hx3 := hx2.below hb3
  have hR3 := hR2.below hb3
  obtain ⟨k0, k1⟩ := hx3.q
  obtain ⟨j0, j1, j2, j3⟩ := hx3.op
  have HK2 := Lib.hid hK2
  have HD2 := Lib.hid hD2
  have HX3 := Lib.hid hx3
  have HR3 := Lib.hid hR3
  have HB3 := Lib.hid hb3
  have HH3 := Lib.hid hh3
  clear hK2 hD2 hx2 hR2 hx3 hR3 hb3 hh3 HBX
  go_wp2_with fail
  generalize w2.alloc (.cells #[.int .i64 f, .int .i64 t, .string u] 30) = w3 at *
  refine (HR1.out w3 N a c HR3.out).mono ?_
  rintro e w4 ⟨v, rfl, hrv, hb4⟩
  obtain ⟨a', c', rfl, hR4⟩ := hrv
  unfold qv
  have hl4 := hb4.size
  have HR4 := Lib.hid hR4
  have HB4 := Lib.hid hb4
  clear hR4 hb4
  go_wp2_with fail
  have hb5 : Below w4.heap.size w4 ((w4.alloc (.cells #[.int .i64 (most : Nat), .slice a' L'.length c'] 44)).alloc (.cells #[.int .i64 f, .int .i64 t, .string u] 65)) := ((Below.refl _ _).alloc (Nat.le_refl _) _).alloc (by simp) _
  have hq5 : ((w4.alloc (.cells #[.int .i64 (most : Nat), .slice a' L'.length c'] 44)).alloc (.cells #[.int .i64 f, .int .i64 t, .string u] 65)).heap[w4.heap.size]? = some (.cells #[.int .i64 (most : Nat), .slice a' L'.length c'] 44 (0, 0)) := by
    rw [Below.heap_alloc _ _ _ (by simp)]; exact heap_alloc_new w4 _
  have hl5 : ((w4.alloc (.cells #[.int .i64 (most : Nat), .slice a' L'.length c'] 44)).alloc (.cells #[.int .i64 f, .int .i64 t, .string u] 65)).heap[w4.heap.size + 1]? = some (.cells #[.int .i64 f, .int .i64 t, .string u] 65 (0, 0)) := heap_alloc2_new w4 _ _
  have hs5 : ((w4.alloc (.cells #[.int .i64 (most : Nat), .slice a' L'.length c'] 44)).alloc (.cells #[.int .i64 f, .int .i64 t, .string u] 65)).heap.size = w4.heap.size + 2 := by simp
  generalize (w4.alloc (.cells #[.int .i64 (most : Nat), .slice a' L'.length c'] 44)).alloc (.cells #[.int .i64 f, .int .i64 t, .string u] 65) = w5 at *
  have hb35 : Below w3.heap.size w3 w5 := HB4.out.trans (hb5.mono HB4.out.size)
  have hx5 := HX3.out.below hb35
  have hh5 := (hb35.block w2.heap.size (by omega)).trans HH3.out
  have hb25 : Below w2.heap.size w2 w5 := HB3.out.trans (hb35.mono (by omega))
  have HX5 := Lib.hid hx5
  have HB25 := Lib.hid hb25
  have HB5 := Lib.hid hb5
  obtain ⟨e0, e1⟩ := cells2_of hq5
  have m0 : w5.cell? ⟨w2.heap.size, 0, none⟩ = some (.int .i64 f) := by rw [cell_of_row _ _ _ _ _ _ hh5]; rfl
  have m1 : w5.cell? ⟨w2.heap.size, 1, none⟩ = some (.int .i64 t) := by rw [cell_of_row _ _ _ _ _ _ hh5]; rfl
  have m2 : w5.cell? ⟨w2.heap.size, 2, none⟩ = some (.string u) := by rw [cell_of_row _ _ _ _ _ _ hh5]; rfl
  have l0 : w5.cell? ⟨w4.heap.size + 1, 0, none⟩ = some (.int .i64 f) := by rw [cell_of_row _ _ _ _ _ _ hl5]; rfl
  have l1 : w5.cell? ⟨w4.heap.size + 1, 1, none⟩ = some (.int .i64 t) := by rw [cell_of_row _ _ _ _ _ _ hl5]; rfl
  have l2 : w5.cell? ⟨w4.heap.size + 1, 2, none⟩ = some (.string u) := by rw [cell_of_row _ _ _ _ _ _ hl5]; rfl
  obtain ⟨s0, s1⟩ := hx5.res
  have f0 := hx5.resf 0
  have f1 := hx5.resf 1
  have n4 : ¬ w4.heap.size = w.heap.size + 1 + 1 := by omega
  have n5 : ¬ w4.heap.size + 1 = w.heap.size + 1 + 1 := by omega
  have n2 : ¬ w2.heap.size = w.heap.size + 1 + 1 := by omega
  have ze0 := far2 (g := w.heap.size + 1 + 1) (u0 := .int .i64 (most : Nat)) (u1 := .slice a' L'.length c') e0 n4
  have ze1 := far2 (g := w.heap.size + 1 + 1) (u0 := .int .i64 (most : Nat)) (u1 := .slice a' L'.length c') e1 n4
  have zm0 := far2 (g := w.heap.size + 1 + 1) (u0 := .int .i64 (most : Nat)) (u1 := .slice a' L'.length c') m0 n2
  have zm1 := far2 (g := w.heap.size + 1 + 1) (u0 := .int .i64 (most : Nat)) (u1 := .slice a' L'.length c') m1 n2
  have zm2 := far2 (g := w.heap.size + 1 + 1) (u0 := .int .i64 (most : Nat)) (u1 := .slice a' L'.length c') m2 n2
  have zl0 := far2 (g := w.heap.size + 1 + 1) (u0 := .int .i64 (most : Nat)) (u1 := .slice a' L'.length c') l0 n5
  have zl1 := far2 (g := w.heap.size + 1 + 1) (u0 := .int .i64 (most : Nat)) (u1 := .slice a' L'.length c') l1 n5
  have zl2 := far2 (g := w.heap.size + 1 + 1) (u0 := .int .i64 (most : Nat)) (u1 := .slice a' L'.length c') l2 n5
  have hEQ := eq_same f t u
  clear hb35 hx5 hh5 hb25 hb5 hq5 hl5 v0 v1 o0 o1 o2 o3 k0 k1 j0 j1 j2 j3 HX3 HH3 HB3
  go_region_held3 (fun w' => w'.cell? ⟨w4.heap.size, 0, none⟩ = some (.int .i64 (most : Nat)) ∧ w'.cell? ⟨w4.heap.size, 1, none⟩ = some (.slice a' L'.length c') ∧ w'.cell? ⟨w2.heap.size, 0, none⟩ = some (.int .i64 f) ∧ w'.cell? ⟨w2.heap.size, 1, none⟩ = some (.int .i64 t) ∧ w'.cell? ⟨w2.heap.size, 2, none⟩ = some (.string u) ∧ w'.cell? ⟨w4.heap.size + 1, 0, none⟩ = some (.int .i64 f) ∧ w'.cell? ⟨w4.heap.size + 1, 1, none⟩ = some (.int .i64 t) ∧ w'.cell? ⟨w4.heap.size + 1, 2, none⟩ = some (.string u)) (go_keep) (fail)
  all_goals
    go_wp2_with fail
    have hR5 : Rd w5 (NN (NN N w w1) w2 w5) a' c' L' := (HR4.out.below HB5.out).more fun z hz => by
      rcases hz with hz | ⟨hz, hz'⟩
      · exact .inl (.inl hz)
      · exact .inr ⟨by omega, by omega⟩
    have hap := HR4.out.apart (g := w.heap.size + 1 + 1) (fun z hz => by
      rcases hz with hz | ⟨hz, _⟩
      · have := HD.out.lt z hz; omega
      · omega)
    have hKK : Kept N w w5 := ((Kept.of_below HB1.out HD.out.lt).trans (HK2.out.less fun z hz => .inl hz)).trans (Kept.of_below HB25.out fun z hz => by have := HD.out.lt z hz; omega)
    obtain ⟨p1, p2, p3⟩ := stored_did (most := most) HD.out.lt (.inl (.inr ⟨by omega, by omega⟩)) (HD2.out.below HB25.out) hR5 hap hKK
    obtain ⟨c0, c1⟩ := st2_cells (most := most) (V := .slice a' L'.length c') HX5.out.b6
    refine bodyPost_ret (v := .tuple #[qv most a' L'.length c', .bool true]) ?_ rfl ⟨_, NN (NN N w w1) w2 w5, _, L', rfl, fun z hz => .inl (.inl hz), p1.drew, p2.move (Nat.le_refl _) (fun _ _ _ => rfl), p3.drew, Nat.le_refl _, HLEN.out⟩
    unfold st2 at c0 c1
    unfold qv
    simp [results, Try.results14, go_sem, c0, c1]

theorem DidPost.more {w : World} {N : Nat → Prop} {g most k : Nat} {R R' : List Lt → Prop} (h : ∀ L, R L → R' L) {f : FuncId} {args : Array Value} (hc : Calls Try.prog f args w (DidPost w N g most k R)) : Calls Try.prog f args w (DidPost w N g most k R') :=
  hc.mono fun _ _ ⟨v, N', n', L', h1, h2, h3, h4, h5, h6, h7⟩ => ⟨v, N', n', L', h1, h2, h3, h4, h5, h6, h L' h7⟩
/-- does, at any call -/
theorem does_any {w : World} {N : Nat → Prop} {g most n c : Nat} {a : Option Addr} {L : List Lt} (hD : Net w g N most n L) (hR : Rd w N a c L) (kind x y : Int) (s : ByteArray) (hx : Fits x) (hy : Fits y) (hL : L.length ≤ 100000) (hn : n ≤ 800000) :
    Calls Try.prog 14 #[.pointer (some ⟨g, 0, none⟩), qv most a L.length c, .agg #[.int .i64 kind, .int .i64 x, .int .i64 y, .string s]] w (DidPost w N g most (n + L.length + 1) fun L' => L'.length ≤ L.length + 1) := by
  by_cases h1 : kind = 1
  · subst h1; exact does_put hD hR x y s hL hn
  by_cases h2 : kind = 2
  · subst h2; exact DidPost.more (fun L' h => by omega) (does_take hD hR x y s hL hn)
  by_cases h3 : kind = 3
  · subst h3; exact does_twice hD hR x y s hL hn
  by_cases h4 : kind = 4
  · subst h4; exact does_cut hD hR x y s hL hn
  by_cases h5 : kind = 5
  · subst h5; exact does_between hD hR x y s hx hy hL
  exact does_other hD hR kind ⟨h1, h2, h3, h4, h5⟩ x y s
end Go.Proofs.Ytflaghnbbfdamaa
