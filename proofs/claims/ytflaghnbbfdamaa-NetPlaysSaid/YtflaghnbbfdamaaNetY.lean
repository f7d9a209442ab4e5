/-
  does of the laws of package net, at Put, Twice, Cut (printed by netdoes.py).
-/
import Derived.Test.YtflaghnbbfdamaaNetX
namespace Go.Proofs.Ytflaghnbbfdamaa
open Go.RowKit

set_option maxRecDepth 100000 in
set_option maxHeartbeats 6400000 in
theorem does_put {w : World} {N : Nat → Prop} {g most n c : Nat} {a : Option Addr} {L : List Lt} (hD : Net w g N most n L) (hR : Rd w N a c L) (x y : Int) (s : ByteArray) (hL : L.length ≤ 100000) (hn : n ≤ 800000) :
    Calls Try.prog 14 #[.pointer (some ⟨g, 0, none⟩), qv most a L.length c, .agg #[.int .i64 1, .int .i64 x, .int .i64 y, .string s]] w (DidPost w N g most (n + L.length + 1) fun L' => L'.length ≤ L.length + 1) := by
  obtain ⟨code, L', hr1, hd1, hlen⟩ := put_pair hD x y s (by omega) (by omega)
  have hbox := Dbx.new w most (.slice a L.length c) 1 x y s
  have hbel := below3 w (.cells #[.int .i64 (most : Nat), .slice a L.length c] 44) (.cells #[.int .i64 1, .int .i64 x, .int .i64 y, .string s] 48) (.cells #[.int .i64 0, .slice none 0 0] 44)
  have HR1 := Lib.hid hr1
  have HD1 := Lib.hid hd1
  have HR := Lib.hid hR
  have HD := Lib.hid hD
  have HLEN := Lib.hid hlen
  clear hr1 hd1 hR hD hL hn hlen
  unfold qv
  go_enter Try.func14, Try.ntmps14
  go_wp2_with fail
  generalize ((w.alloc (.cells #[.int .i64 (most : Nat), .slice a L.length c] 44)).alloc (.cells #[.int .i64 1, .int .i64 x, .int .i64 y, .string s] 48)).alloc (.cells #[.int .i64 0, .slice none 0 0] 44) = w1 at *
  refine (HR1.out w1 N a c (fun z hz => Nat.lt_of_lt_of_le (HD.out.lt z hz) hbel.size) (HR.out.below hbel)).mono ?_
  rintro e w2 ⟨v, rfl, hrf, hb2⟩
  obtain ⟨a', c', rfl, hR2⟩ := hrf
  unfold qv
  have hD1 := HD.out.below hbel
  have hD2 := hD1.below hb2
  have hbox2 := hbox.below hb2
  have HBEL := Lib.hid hbel
  have HB2 := Lib.hid hb2
  clear hbel hD1 hb2
  go_wp2_with fail
  have hb3 : Below w2.heap.size w2 (w2.alloc (.cells #[.int .i64 (most : Nat), .slice a' L'.length c'] 44)) := (Below.refl _ _).alloc (Nat.le_refl _) _
  have hh8 : (w2.alloc (.cells #[.int .i64 (most : Nat), .slice a' L'.length c'] 44)).heap[w2.heap.size]? = some (.cells #[.int .i64 (most : Nat), .slice a' L'.length c'] 44 (0, 0)) := heap_alloc_new w2 _
  have hsz3 : (w2.alloc (.cells #[.int .i64 (most : Nat), .slice a' L'.length c'] 44)).heap.size = w2.heap.size + 1 := by simp
  generalize w2.alloc (.cells #[.int .i64 (most : Nat), .slice a' L'.length c'] 44) = w3 at *
  have hD3 := hD2.below hb3
  have hbox3 := hbox2.below hb3
  have hR3 := hR2.below hb3
  have hb03 : Below w.heap.size w w3 := HBEL.out.trans ((HB2.out.mono HBEL.out.size).trans (hb3.mono (Nat.le_trans HBEL.out.size HB2.out.size)))
  have HK3 : Hid (Kept N w w3) := Kept.of_below hb03 HD.out.lt
  have HD4 : Hid (Net w3 g (NN N w w3) most n L) := hD3.nn
  have hl1 := HBEL.out.size
  have hl2 := HB2.out.size
  have HR4 : Hid (Rd w3 (NN N w w3) a' c' L') := hR3.more (fun z hz => NN.nn hl1 (by omega) hz)
  have hw13 := hbox.lt
  have HA1 := Lib.hid (hR2.apart (fun z hz => NN.ne HD.out.lt hw13 hz))
  have HBX := Lib.hid hbox3
  have HH8 := Lib.hid hh8
  have hbl := hbox2.lt
  clear hD3 hD2 hR3 hR2 hbox hbox2 hbox3 hb3 hb03 hh8
  obtain ⟨g8, hg8⟩ : ∃ g8, g8 = w2.heap.size := ⟨_, rfl⟩
  rw [← hg8] at HH8 hsz3 hl2 hbl ⊢
  have hM : ∀ z, w.heap.size ≤ z → z < w.heap.size + 3 → NN N w w3 z := fun z h1 h2 => .inr ⟨h1, by omega⟩
  have hM8 : NN N w w3 g8 := .inr ⟨by omega, by omega⟩
  have HM := Lib.hid hM
  have HM8 := Lib.hid hM8
  obtain ⟨o0, o1, o2, o3⟩ := HBX.out.op
  obtain ⟨e0, e1⟩ := cells2_of HH8.out
  have n1 : ¬ g8 = w.heap.size + 1 + 1 := by omega
  have n2 : ¬ w.heap.size + 1 = w.heap.size + 1 + 1 := by omega
  have n3 : ¬ g8 = w.heap.size + 1 := by omega
  clear hM hM8 hg8 o0
  go_region_held3 (fun w' => w'.cell? ⟨g8, 0, none⟩ = some (.int .i64 (most : Nat)) ∧ w'.cell? ⟨g8, 1, none⟩ = some (.slice a' L'.length c') ∧ w'.cell? ⟨w.heap.size + 1, 1, none⟩ = some (.int .i64 x) ∧ w'.cell? ⟨w.heap.size + 1, 2, none⟩ = some (.int .i64 y) ∧ w'.cell? ⟨w.heap.size + 1, 3, none⟩ = some (.string s)) (go_keep)
    ((go_at_call 8; refine (HD1.out _ (NN N w w3) (by first | exact HD4.out.drew | exact HD4.out)).mono ?_; rintro e w4 ⟨rfl, hD5, hK5⟩; have hk34 : Kept (NN N w w3) w3 w4 := ⟨hK5.os, hK5.tape, hK5.output, hK5.size, hK5.block⟩; have hx1 := HBX.out.kept hk34 HM.out; have hx2 := (hk34.block g8 HM8.out).trans HH8.out; obtain ⟨q0, q1, q2, q3⟩ := hx1.op; obtain ⟨s0, s1⟩ := hx1.res; obtain ⟨y0, y1⟩ := cells2_of hx2; have f0 := hx1.resf 0; have f1 := hx1.resf 1; have z0 := far2 (g := w.heap.size + 1 + 1) (u0 := .int .i64 (most : Nat)) (u1 := .slice a' L'.length c') y0 n1; have z1 := far2 (g := w.heap.size + 1 + 1) (u0 := .int .i64 (most : Nat)) (u1 := .slice a' L'.length c') y1 n1; have t1 := far2 (g := w.heap.size + 1 + 1) (u0 := .int .i64 (most : Nat)) (u1 := .slice a' L'.length c') q1 n2; have t2 := far2 (g := w.heap.size + 1 + 1) (u0 := .int .i64 (most : Nat)) (u1 := .slice a' L'.length c') q2 n2; have t3 := far2 (g := w.heap.size + 1 + 1) (u0 := .int .i64 (most : Nat)) (u1 := .slice a' L'.length c') q3 n2))
  all_goals
    go_wp2_with fail
    obtain ⟨p1, p2, p3⟩ := stored_did (most := most) HD.out.lt (HM.out _ (by omega) (by omega)) hD5 (HR4.out.kept hk34) HA1.out (HK3.out.trans (hk34.less (fun z hz => .inl hz)))
    obtain ⟨c0, c1⟩ := st2_cells (most := most) (V := .slice a' L'.length c') hx1.b6
    refine bodyPost_ret (v := .tuple #[qv most a' L'.length c', .bool true]) ?_ rfl ⟨_, NN N w w3, _, L', rfl, fun z hz => .inl hz, p1, p2, p3, Nat.le_refl _, HLEN.out⟩
    unfold st2 at c0 c1
    unfold qv
    simp [results, Try.results14, go_sem, c0, c1]

set_option maxRecDepth 100000 in
set_option maxHeartbeats 6400000 in
theorem does_twice {w : World} {N : Nat → Prop} {g most n c : Nat} {a : Option Addr} {L : List Lt} (hD : Net w g N most n L) (hR : Rd w N a c L) (x y : Int) (s : ByteArray) (hL : L.length ≤ 100000) (hn : n ≤ 800000) :
    Calls Try.prog 14 #[.pointer (some ⟨g, 0, none⟩), qv most a L.length c, .agg #[.int .i64 3, .int .i64 x, .int .i64 y, .string s]] w (DidPost w N g most (n + L.length + 1) fun L' => L'.length ≤ L.length + 1) := by
  obtain ⟨code, L', hr1, hd1, hlen⟩ := twice_pair hD x (by omega) (by omega)
  have hbox := Dbx.new w most (.slice a L.length c) 3 x y s
  have hbel := below3 w (.cells #[.int .i64 (most : Nat), .slice a L.length c] 44) (.cells #[.int .i64 3, .int .i64 x, .int .i64 y, .string s] 48) (.cells #[.int .i64 0, .slice none 0 0] 44)
  have HR1 := Lib.hid hr1
  have HD1 := Lib.hid hd1
  have HR := Lib.hid hR
  have HD := Lib.hid hD
  have HLEN := Lib.hid hlen
  clear hr1 hd1 hR hD hL hn hlen
  unfold qv
  go_enter Try.func14, Try.ntmps14
  go_wp2_with fail
  generalize ((w.alloc (.cells #[.int .i64 (most : Nat), .slice a L.length c] 44)).alloc (.cells #[.int .i64 3, .int .i64 x, .int .i64 y, .string s] 48)).alloc (.cells #[.int .i64 0, .slice none 0 0] 44) = w1 at *
  refine (HR1.out w1 N a c (fun z hz => Nat.lt_of_lt_of_le (HD.out.lt z hz) hbel.size) (HR.out.below hbel)).mono ?_
  rintro e w2 ⟨v, rfl, hrf, hb2⟩
  obtain ⟨a', c', rfl, hR2⟩ := hrf
  unfold qv
  have hD1 := HD.out.below hbel
  have hD2 := hD1.below hb2
  have hbox2 := hbox.below hb2
  have HBEL := Lib.hid hbel
  have HB2 := Lib.hid hb2
  clear hbel hD1 hb2
  go_wp2_with fail
  have hb3 : Below w2.heap.size w2 (w2.alloc (.cells #[.int .i64 (most : Nat), .slice a' L'.length c'] 44)) := (Below.refl _ _).alloc (Nat.le_refl _) _
  have hh8 : (w2.alloc (.cells #[.int .i64 (most : Nat), .slice a' L'.length c'] 44)).heap[w2.heap.size]? = some (.cells #[.int .i64 (most : Nat), .slice a' L'.length c'] 44 (0, 0)) := heap_alloc_new w2 _
  have hsz3 : (w2.alloc (.cells #[.int .i64 (most : Nat), .slice a' L'.length c'] 44)).heap.size = w2.heap.size + 1 := by simp
  generalize w2.alloc (.cells #[.int .i64 (most : Nat), .slice a' L'.length c'] 44) = w3 at *
  have hD3 := hD2.below hb3
  have hbox3 := hbox2.below hb3
  have hR3 := hR2.below hb3
  have hb03 : Below w.heap.size w w3 := HBEL.out.trans ((HB2.out.mono HBEL.out.size).trans (hb3.mono (Nat.le_trans HBEL.out.size HB2.out.size)))
  have HK3 : Hid (Kept N w w3) := Kept.of_below hb03 HD.out.lt
  have HD4 : Hid (Net w3 g (NN N w w3) most n L) := hD3.nn
  have hl1 := HBEL.out.size
  have hl2 := HB2.out.size
  have HR4 : Hid (Rd w3 (NN N w w3) a' c' L') := hR3.more (fun z hz => NN.nn hl1 (by omega) hz)
  have hw13 := hbox.lt
  have HA1 := Lib.hid (hR2.apart (fun z hz => NN.ne HD.out.lt hw13 hz))
  have HBX := Lib.hid hbox3
  have HH8 := Lib.hid hh8
  have hbl := hbox2.lt
  clear hD3 hD2 hR3 hR2 hbox hbox2 hbox3 hb3 hb03 hh8
  obtain ⟨g8, hg8⟩ : ∃ g8, g8 = w2.heap.size := ⟨_, rfl⟩
  rw [← hg8] at HH8 hsz3 hl2 hbl ⊢
  have hM : ∀ z, w.heap.size ≤ z → z < w.heap.size + 3 → NN N w w3 z := fun z h1 h2 => .inr ⟨h1, by omega⟩
  have hM8 : NN N w w3 g8 := .inr ⟨by omega, by omega⟩
  have HM := Lib.hid hM
  have HM8 := Lib.hid hM8
  obtain ⟨o0, o1, o2, o3⟩ := HBX.out.op
  obtain ⟨e0, e1⟩ := cells2_of HH8.out
  have n1 : ¬ g8 = w.heap.size + 1 + 1 := by omega
  have n2 : ¬ w.heap.size + 1 = w.heap.size + 1 + 1 := by omega
  have n3 : ¬ g8 = w.heap.size + 1 := by omega
  clear hM hM8 hg8 o0
  go_region_held3 (fun w' => w'.cell? ⟨g8, 0, none⟩ = some (.int .i64 (most : Nat)) ∧ w'.cell? ⟨g8, 1, none⟩ = some (.slice a' L'.length c') ∧ w'.cell? ⟨w.heap.size + 1, 1, none⟩ = some (.int .i64 x)) (go_keep)
    ((go_at_call 15; refine (HD1.out _ (NN N w w3) (by first | exact HD4.out.drew | exact HD4.out)).mono ?_; rintro e w4 ⟨rfl, hD5, hK5⟩; have hk34 : Kept (NN N w w3) w3 w4 := ⟨hK5.os, hK5.tape, hK5.output, hK5.size, hK5.block⟩; have hx1 := HBX.out.kept hk34 HM.out; have hx2 := (hk34.block g8 HM8.out).trans HH8.out; obtain ⟨q0, q1, q2, q3⟩ := hx1.op; obtain ⟨s0, s1⟩ := hx1.res; obtain ⟨y0, y1⟩ := cells2_of hx2; have f0 := hx1.resf 0; have f1 := hx1.resf 1; have z0 := far2 (g := w.heap.size + 1 + 1) (u0 := .int .i64 (most : Nat)) (u1 := .slice a' L'.length c') y0 n1; have z1 := far2 (g := w.heap.size + 1 + 1) (u0 := .int .i64 (most : Nat)) (u1 := .slice a' L'.length c') y1 n1; have t1 := far2 (g := w.heap.size + 1 + 1) (u0 := .int .i64 (most : Nat)) (u1 := .slice a' L'.length c') q1 n2))
  all_goals
    go_wp2_with fail
    obtain ⟨p1, p2, p3⟩ := stored_did (most := most) HD.out.lt (HM.out _ (by omega) (by omega)) hD5 (HR4.out.kept hk34) HA1.out (HK3.out.trans (hk34.less (fun z hz => .inl hz)))
    obtain ⟨c0, c1⟩ := st2_cells (most := most) (V := .slice a' L'.length c') hx1.b6
    refine bodyPost_ret (v := .tuple #[qv most a' L'.length c', .bool true]) ?_ rfl ⟨_, NN N w w3, _, L', rfl, fun z hz => .inl hz, p1, p2, p3, Nat.le_refl _, HLEN.out⟩
    unfold st2 at c0 c1
    unfold qv
    simp [results, Try.results14, go_sem, c0, c1]

set_option maxRecDepth 100000 in
set_option maxHeartbeats 6400000 in
theorem does_cut {w : World} {N : Nat → Prop} {g most n c : Nat} {a : Option Addr} {L : List Lt} (hD : Net w g N most n L) (hR : Rd w N a c L) (x y : Int) (s : ByteArray) (hL : L.length ≤ 100000) (hn : n ≤ 800000) :
    Calls Try.prog 14 #[.pointer (some ⟨g, 0, none⟩), qv most a L.length c, .agg #[.int .i64 4, .int .i64 x, .int .i64 y, .string s]] w (DidPost w N g most (n + L.length + 1) fun L' => L'.length ≤ L.length + 1) := by
  obtain ⟨code, L', hr1, hd1, hlen⟩ := cut_pair hD x hL hn
  have hbox := Dbx.new w most (.slice a L.length c) 4 x y s
  have hbel := below3 w (.cells #[.int .i64 (most : Nat), .slice a L.length c] 44) (.cells #[.int .i64 4, .int .i64 x, .int .i64 y, .string s] 48) (.cells #[.int .i64 0, .slice none 0 0] 44)
  have HR1 := Lib.hid hr1
  have HD1 := Lib.hid hd1
  have HR := Lib.hid hR
  have HD := Lib.hid hD
  have HLEN := Lib.hid hlen
  clear hr1 hd1 hR hD hL hn hlen
  unfold qv
  go_enter Try.func14, Try.ntmps14
  go_wp2_with fail
  generalize ((w.alloc (.cells #[.int .i64 (most : Nat), .slice a L.length c] 44)).alloc (.cells #[.int .i64 4, .int .i64 x, .int .i64 y, .string s] 48)).alloc (.cells #[.int .i64 0, .slice none 0 0] 44) = w1 at *
  refine (HR1.out w1 N a c (fun z hz => Nat.lt_of_lt_of_le (HD.out.lt z hz) hbel.size) (HR.out.below hbel)).mono ?_
  rintro e w2 ⟨v, rfl, hrf, hb2⟩
  obtain ⟨a', c', rfl, hR2⟩ := hrf
  unfold qv
  have hD1 := HD.out.below hbel
  have hD2 := hD1.below hb2
  have hbox2 := hbox.below hb2
  have HBEL := Lib.hid hbel
  have HB2 := Lib.hid hb2
  clear hbel hD1 hb2
  go_wp2_with fail
  have hb3 : Below w2.heap.size w2 (w2.alloc (.cells #[.int .i64 (most : Nat), .slice a' L'.length c'] 44)) := (Below.refl _ _).alloc (Nat.le_refl _) _
  have hh8 : (w2.alloc (.cells #[.int .i64 (most : Nat), .slice a' L'.length c'] 44)).heap[w2.heap.size]? = some (.cells #[.int .i64 (most : Nat), .slice a' L'.length c'] 44 (0, 0)) := heap_alloc_new w2 _
  have hsz3 : (w2.alloc (.cells #[.int .i64 (most : Nat), .slice a' L'.length c'] 44)).heap.size = w2.heap.size + 1 := by simp
  generalize w2.alloc (.cells #[.int .i64 (most : Nat), .slice a' L'.length c'] 44) = w3 at *
  have hD3 := hD2.below hb3
  have hbox3 := hbox2.below hb3
  have hR3 := hR2.below hb3
  have hb03 : Below w.heap.size w w3 := HBEL.out.trans ((HB2.out.mono HBEL.out.size).trans (hb3.mono (Nat.le_trans HBEL.out.size HB2.out.size)))
  have HK3 : Hid (Kept N w w3) := Kept.of_below hb03 HD.out.lt
  have HD4 : Hid (Net w3 g (NN N w w3) most n L) := hD3.nn
  have hl1 := HBEL.out.size
  have hl2 := HB2.out.size
  have HR4 : Hid (Rd w3 (NN N w w3) a' c' L') := hR3.more (fun z hz => NN.nn hl1 (by omega) hz)
  have hw13 := hbox.lt
  have HA1 := Lib.hid (hR2.apart (fun z hz => NN.ne HD.out.lt hw13 hz))
  have HBX := Lib.hid hbox3
  have HH8 := Lib.hid hh8
  have hbl := hbox2.lt
  clear hD3 hD2 hR3 hR2 hbox hbox2 hbox3 hb3 hb03 hh8
  obtain ⟨g8, hg8⟩ : ∃ g8, g8 = w2.heap.size := ⟨_, rfl⟩
  rw [← hg8] at HH8 hsz3 hl2 hbl ⊢
  have hM : ∀ z, w.heap.size ≤ z → z < w.heap.size + 3 → NN N w w3 z := fun z h1 h2 => .inr ⟨h1, by omega⟩
  have hM8 : NN N w w3 g8 := .inr ⟨by omega, by omega⟩
  have HM := Lib.hid hM
  have HM8 := Lib.hid hM8
  obtain ⟨o0, o1, o2, o3⟩ := HBX.out.op
  obtain ⟨e0, e1⟩ := cells2_of HH8.out
  have n1 : ¬ g8 = w.heap.size + 1 + 1 := by omega
  have n2 : ¬ w.heap.size + 1 = w.heap.size + 1 + 1 := by omega
  have n3 : ¬ g8 = w.heap.size + 1 := by omega
  clear hM hM8 hg8 o0
  go_region_held3 (fun w' => w'.cell? ⟨g8, 0, none⟩ = some (.int .i64 (most : Nat)) ∧ w'.cell? ⟨g8, 1, none⟩ = some (.slice a' L'.length c') ∧ w'.cell? ⟨w.heap.size + 1, 1, none⟩ = some (.int .i64 x)) (go_keep)
    ((go_at_call 16; refine (HD1.out _ (NN N w w3) (by first | exact HD4.out.drew | exact HD4.out)).mono ?_; rintro e w4 ⟨rfl, hD5, hK5⟩; have hk34 : Kept (NN N w w3) w3 w4 := ⟨hK5.os, hK5.tape, hK5.output, hK5.size, hK5.block⟩; have hx1 := HBX.out.kept hk34 HM.out; have hx2 := (hk34.block g8 HM8.out).trans HH8.out; obtain ⟨q0, q1, q2, q3⟩ := hx1.op; obtain ⟨s0, s1⟩ := hx1.res; obtain ⟨y0, y1⟩ := cells2_of hx2; have f0 := hx1.resf 0; have f1 := hx1.resf 1; have z0 := far2 (g := w.heap.size + 1 + 1) (u0 := .int .i64 (most : Nat)) (u1 := .slice a' L'.length c') y0 n1; have z1 := far2 (g := w.heap.size + 1 + 1) (u0 := .int .i64 (most : Nat)) (u1 := .slice a' L'.length c') y1 n1; have t1 := far2 (g := w.heap.size + 1 + 1) (u0 := .int .i64 (most : Nat)) (u1 := .slice a' L'.length c') q1 n2))
  all_goals
    go_wp2_with fail
    obtain ⟨p1, p2, p3⟩ := stored_did (most := most) HD.out.lt (HM.out _ (by omega) (by omega)) hD5 (HR4.out.kept hk34) HA1.out (HK3.out.trans (hk34.less (fun z hz => .inl hz)))
    obtain ⟨c0, c1⟩ := st2_cells (most := most) (V := .slice a' L'.length c') hx1.b6
    refine bodyPost_ret (v := .tuple #[qv most a' L'.length c', .bool true]) ?_ rfl ⟨_, NN N w w3, _, L', rfl, fun z hz => .inl hz, p1, p2, p3, Nat.le_refl _, HLEN.out⟩
    unfold st2 at c0 c1
    unfold qv
    simp [results, Try.results14, go_sem, c0, c1]
end Go.Proofs.Ytflaghnbbfdamaa
