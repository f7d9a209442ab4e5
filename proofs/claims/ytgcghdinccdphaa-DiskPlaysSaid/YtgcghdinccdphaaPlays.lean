/-
  The law DiskPlays: the disk and the document's are played side by side: they never part.
-/
import Derived.Test.YtgcghdinccdphaaSameD
namespace Go.Proofs.Ytgcghdinccdphaa
open Go.RowKit

/-- an element of the script, as it came -/
def Scr (w : World) (a : Option Addr) (i : Nat) : Prop := ∃ (b o : Nat) (kind file x y : Int) (s : ByteArray) (kv : Value) (L : List Int), a = some ⟨b, o, none⟩ ∧ b < w.heap.size ∧
  w.cell? ⟨b, o + i * 6, none⟩ = some (.int .i64 kind) ∧ w.cell? ⟨b, o + i * 6 + 1, none⟩ = some (.int .i64 file) ∧ w.cell? ⟨b, o + i * 6 + 2, none⟩ = some (.int .i64 x) ∧ w.cell? ⟨b, o + i * 6 + 3, none⟩ = some (.int .i64 y) ∧
  w.cell? ⟨b, o + i * 6 + 4, none⟩ = some (.string s) ∧ w.cell? ⟨b, o + i * 6 + 5, none⟩ = some kv ∧ s.size ≤ maxLen ∧ (-9223372036854775808 ≤ x ∧ x ≤ 9223372036854775807) ∧ (-9223372036854775808 ≤ y ∧ y ≤ 9223372036854775807) ∧ Ints w (fun z => z < w.heap.size) kv L

theorem Rfd.ne_box {w : World} {N : Nat → Prop} {a b c d g : Nat} {r : Int} {F : Nat → List UInt8} {S : Nat → Nat} {sa sb : Option Addr} {la lb ca cb : Nat} (h : Rfd w N a b c d F S) (hg : w.heap[g]? = some (.cells #[.int .i64 r, .slice sa la ca, .slice sb lb cb] 45 (0, 0))) : a ≠ g ∧ b ≠ g := by
  obtain ⟨c0, c1, c2⟩ := cells3_of hg
  constructor
  · rintro rfl
    have := h.all 0 (by omega)
    rw [c0] at this
    simp at this
  · rintro rfl
    have := h.sure 1 (by omega)
    rw [c1] at this
    simp at this

/-- behind does -/
structure Mid (w W : World) (g q t r : Nat) (a1 b1 c1 d1 a b c d : Nat) (N : Nat → Prop) (F : Nat → List UInt8) (S : Nat → Nat) : Prop where
  disk : Disk W g N r F S
  rfd : Rfd W N a b c d F S
  bq : W.heap[q]? = some (.cells #[.int .i64 (r : Nat), .slice (some ⟨a1, 0, none⟩) 256 c1, .slice (some ⟨b1, 0, none⟩) 256 d1] 45 (0, 0))
  bt : W.heap[t]? = some (.cells #[.int .i64 (r : Nat), .slice (some ⟨a, 0, none⟩) 256 c, .slice (some ⟨b, 0, none⟩) 256 d] 45 (0, 0))
  nq : ∀ z, z < w.heap.size ∨ z = q → N z
  kept : Kept (fun z => z < w.heap.size) w W
theorem stored_other {w : World} {p q r a b c d : Nat} (h : q ≠ p) : (stored3 w p r a b c d).heap[q]? = w.heap[q]? := by
  unfold stored3
  rw [Below.heap_setCell _ _ _ _ (show q ≠ p from h), Below.heap_setCell _ _ _ _ (show q ≠ p from h), Below.heap_setCell _ _ _ _ (show q ≠ p from h)]
theorem mid_a {w w4 : World} {g q r a1 b1 c1 d1 a b c d : Nat} {N : Nat → Prop} {F : Nat → List UInt8} {S : Nat → Nat} (hD : Disk w4 g N r F S) (hR : Rfd w4 N a b c d F S) (hX : w4.heap[q]? = some (.cells #[.int .i64 (r : Nat), .slice (some ⟨a1, 0, none⟩) 256 c1, .slice (some ⟨b1, 0, none⟩) 256 d1] 45 (0, 0)))
    (hq : q < w4.heap.size) (hN : ∀ z, z < w.heap.size ∨ z = q → N z) (hK : Kept (fun z => z < w.heap.size) w w4) :
    Mid w (w4.alloc (.cells #[.int .i64 (r : Nat), .slice (some ⟨a, 0, none⟩) 256 c, .slice (some ⟨b, 0, none⟩) 256 d] 45)) g q w4.heap.size r a1 b1 c1 d1 a b c d
      (NN N w4 (w4.alloc (.cells #[.int .i64 (r : Nat), .slice (some ⟨a, 0, none⟩) 256 c, .slice (some ⟨b, 0, none⟩) 256 d] 45))) F S := by
  have k : Below w4.heap.size w4 (w4.alloc (.cells #[.int .i64 (r : Nat), .slice (some ⟨a, 0, none⟩) 256 c, .slice (some ⟨b, 0, none⟩) 256 d] 45)) := (Below.refl _ _).alloc (Nat.le_refl _) _
  exact ⟨hD.below k, (hR.below k).more fun z hz => .inl hz, (k.block q hq).trans hX, heap_alloc_new w4 _, fun z hz => .inl (hN z hz), hK.trans (Kept.of_below k fun z hz => by have := hK.size; have hz : z < w.heap.size := hz; omega)⟩
theorem mid_b {w w4 : World} {g q p r a1 b1 c1 d1 a b c d : Nat} {N : Nat → Prop} {F : Nat → List UInt8} {S : Nat → Nat} (hD : Disk w4 g N r F S) (hR : Rfd w4 N a b c d F S) (hX : w4.heap[q]? = some (.cells #[.int .i64 (r : Nat), .slice (some ⟨a1, 0, none⟩) 256 c1, .slice (some ⟨b1, 0, none⟩) 256 d1] 45 (0, 0)))
    (hZ : w4.heap[p]? = some (.cells #[.int .i64 0, .slice none 0 0, .slice none 0 0] 45 (0, 0))) (hp : N p) (hqp : ¬ q = p) (hwp : w.heap.size ≤ p) (hN : ∀ z, z < w.heap.size ∨ z = q → N z) (hK : Kept (fun z => z < w.heap.size) w w4) :
    Mid w (stored3 w4 p r a b c d) g q p r a1 b1 c1 d1 a b c d N F S := by
  have hn : ¬ p < w.heap.size := by omega
  obtain ⟨na, nb⟩ := hR.ne_box hZ
  exact ⟨((hD.store (p := ⟨p, 0, none⟩) hp _).store (p := ⟨p, 1, none⟩) hp _).store (p := ⟨p, 2, none⟩) hp _, hR.stored na nb, (stored_other hqp).trans hX, heap_of_cells (heap_of_cells (heap_of_cells hZ 0 _) 1 _) 2 _, hN,
    ((hK.setCell (p := ⟨p, 0, none⟩) hn _).setCell (p := ⟨p, 1, none⟩) hn _).setCell (p := ⟨p, 2, none⟩) hn _⟩
theorem Mid.turn {w W : World} {g q t r a1 b1 c1 d1 a b c d : Nat} {N : Nat → Prop} {F : Nat → List UInt8} {S : Nat → Nat} (h : Mid w W g q t r a1 b1 c1 d1 a b c d N F S) (hq : ¬ q < w.heap.size) :
    Disk (stored3 W q r a b c d) g N r F S ∧ Rfd (stored3 W q r a b c d) N a b c d F S ∧ (stored3 W q r a b c d).heap[q]? = some (.cells #[.int .i64 (r : Nat), .slice (some ⟨a, 0, none⟩) 256 c, .slice (some ⟨b, 0, none⟩) 256 d] 45 (0, 0)) ∧ Kept (fun z => z < w.heap.size) w (stored3 W q r a b c d) := by
  obtain ⟨na, nb⟩ := h.rfd.ne_box h.bq
  have hp := h.nq q (.inr rfl)
  exact ⟨((h.disk.store (p := ⟨q, 0, none⟩) hp _).store (p := ⟨q, 1, none⟩) hp _).store (p := ⟨q, 2, none⟩) hp _, h.rfd.stored na nb, heap_of_cells (heap_of_cells (heap_of_cells h.bq 0 _) 1 _) 2 _,
    ((h.kept.setCell (p := ⟨q, 0, none⟩) hq _).setCell (p := ⟨q, 1, none⟩) hq _).setCell (p := ⟨q, 2, none⟩) hq _⟩
theorem after_does {wr W w4 : World} {N : Nat → Prop} (k : Below wr.heap.size wr W) (hk : Kept (NN N wr W) W w4) {z : Nat} (hN : N z) (hz : z < wr.heap.size) : w4.heap[z]? = wr.heap[z]? :=
  (hk.block z (.inl hN)).trans (k.block z hz)

set_option maxRecDepth 100000 in
set_option maxHeartbeats 6400000 in
theorem plays_bad (room : Int) (hr : room < 1 ∨ 16777216 < room) (a : Option Addr) (n c : Nat) (w : World) :
    Calls Try.prog 6 #[.int .i64 room, .slice a n c] w fun e w' => e = .returned (.bool true) ∧ Below w.heap.size w w' := by
  have HN := Lib.hid (new_no room hr)
  have HR := Lib.hid (rnew_no room hr)
  clear hr
  go_enter Try.func6, Try.ntmps6
  go_wp2_with fail
  refine (HN.out _).mono ?_
  rintro e w1 ⟨rfl, rfl⟩
  go_wp2_with fail
  refine (HR.out _).mono ?_
  rintro e w2 ⟨rfl, hb2⟩
  go_wp2_with fail
  have hb3 : Below w.heap.size w (w2.alloc (.cells #[.int .i64 0, .slice none 0 0, .slice none 0 0] 45)) := hb2.alloc hb2.size _
  generalize w2.alloc (.cells #[.int .i64 0, .slice none 0 0, .slice none 0 0] 45) = w3 at *
  refine (awake_any _).mono ?_
  rintro e w4 ⟨rfl, hb4⟩
  go_wp2_with fail
  go_ret
  exact ⟨rfl, hb3.trans (hb4.mono hb3.size)⟩

set_option maxRecDepth 100000 in
set_option maxHeartbeats 6400000 in
theorem plays_ok (r : Nat) (h0 : 1 ≤ r) (h1 : r ≤ 16777216) (a : Option Addr) (n c : Nat) (w : World) (hc : ∀ i, i < n → Scr w a i) (hn : n ≤ 9223372036854775807) :
    Calls Try.prog 6 #[.int .i64 (r : Nat), .slice a n c] w fun e w' => e = .returned (.bool true) ∧ Below w.heap.size w w' := by
  have HN := Lib.hid (new_disk r h0 h1)
  have HR := Lib.hid (rnew_ok r h0 h1)
  have HC := Lib.hid hc
  obtain ⟨m, hm⟩ : ∃ m, m = min n 60 := ⟨_, rfl⟩
  have hmn : m ≤ n := by omega
  have hm60 : m ≤ 60 := by omega
  have HMY := Lib.hid (show m < n → m = 60 by omega)
  clear h0 h1 hc hm
  go_enter Try.func6, Try.ntmps6
  go_wp2_with fail
  refine (HN.out w).mono ?_
  rintro e w1 ⟨rfl, hD1, hK1⟩
  have HD1 := Lib.hid hD1
  have HK1 := Lib.hid hK1
  clear hD1 hK1
  obtain ⟨g, hg⟩ : ∃ g, g = w.heap.size := ⟨_, rfl⟩
  have hgw : w.heap.size ≤ g := by omega
  rw [← hg] at HD1 HK1
  rw [← hg]
  have HG := Lib.hid hg
  clear hg
  go_wp2_with fail
  refine (HR.out w1).mono ?_
  rintro e w2 ⟨v, rfl, hrf, hb2⟩
  obtain ⟨a0, b0, c0, d0, rfl, hR2⟩ := hrf
  unfold rval
  have HR2 := Lib.hid hR2
  have HB2 := Lib.hid hb2
  clear hR2 hb2 HN HR
  go_wp2_with fail
  have hb3 : Below w1.heap.size w1 (w2.alloc (.cells #[.int .i64 (r : Nat), .slice (some ⟨a0, 0, none⟩) 256 c0, .slice (some ⟨b0, 0, none⟩) 256 d0] 45)) := HB2.out.alloc HB2.out.size _
  have hbox : (w2.alloc (.cells #[.int .i64 (r : Nat), .slice (some ⟨a0, 0, none⟩) 256 c0, .slice (some ⟨b0, 0, none⟩) 256 d0] 45)).heap[w2.heap.size]? = some (.cells #[.int .i64 (r : Nat), .slice (some ⟨a0, 0, none⟩) 256 c0, .slice (some ⟨b0, 0, none⟩) 256 d0] 45 (0, 0)) := heap_alloc_new w2 _
  have hrf := HR2.out.below ((Below.refl w2.heap.size w2).alloc (Nat.le_refl _) (.cells #[.int .i64 (r : Nat), .slice (some ⟨a0, 0, none⟩) 256 c0, .slice (some ⟨b0, 0, none⟩) 256 d0] 45))
  obtain ⟨q, hq⟩ : ∃ q, q = w2.heap.size := ⟨_, rfl⟩
  rw [← hq] at hbox
  rw [← hq]
  have HQ : Hid (q = w2.heap.size) := hq
  clear hq
  generalize w2.alloc (.cells #[.int .i64 (r : Nat), .slice (some ⟨a0, 0, none⟩) 256 c0, .slice (some ⟨b0, 0, none⟩) 256 d0] 45) = w3 at *
  have HQ3 : q < w3.heap.size := by
    rcases Nat.lt_or_ge q w3.heap.size with h | h
    · exact h
    · rw [Array.getElem?_eq_none h] at hbox
      cases hbox
  have HK3 : Hid (Kept (fun z => z < w.heap.size) w w3) := by
    refine (HK1.out.less fun z hz => ?_).trans (Kept.of_below hb3 fun z hz => ?_)
    · show z < g; omega
    · have := HD1.out.glt; have hz : z < w.heap.size := hz; omega
  have HD3 : Hid (Disk w3 g (NN (fun z => z < g) w1 w3) r (fun _ => []) (fun _ => 0)) := HD1.out.below hb3
  have HR3 : Hid (Rfd w3 (NN (fun z => z < g) w1 w3) a0 b0 c0 d0 (fun _ => []) (fun _ => 0)) := ⟨.inr ⟨hrf.na, hrf.alt⟩, .inr ⟨hrf.nb, hrf.blt⟩, hrf.all, hrf.sure, hrf.c1, hrf.c2, hrf.d1, hrf.d2⟩
  have HM3 : Hid (∀ z, z < w.heap.size ∨ z = q → NN (fun z => z < g) w1 w3 z) := by
    rintro z (hz | rfl)
    · exact .inl (by show z < g; omega)
    · exact .inr ⟨by rw [HQ.out]; exact HB2.out.size, HQ3⟩
  have HX3 := Lib.hid hbox
  have hqw : w.heap.size < q := by have := HD1.out.glt; have := HB2.out.size; have := HQ.out; omega
  clear hb3 hbox hrf HD1 HK1 HR2 HB2 HQ
  go_loopw [9] (fun v wr => ∃ (i : Nat) (N : Nat → Prop) (F : Nat → List UInt8) (S : Nat → Nat) (a b c d : Nat), i ≤ m ∧ v = .int .i64 i ∧ Hid (Disk wr g N r F S) ∧ Hid (Rfd wr N a b c d F S) ∧ Hid (wr.heap[q]? = some (.cells #[.int .i64 (r : Nat), .slice (some ⟨a, 0, none⟩) 256 c, .slice (some ⟨b, 0, none⟩) 256 d] 45 (0, 0))) ∧ Hid (∀ z, z < w.heap.size ∨ z = q → N z) ∧ Hid (Kept (fun z => z < w.heap.size) w wr)) (fun v _ => m - (intOf v).toNat)
  case atStart => exact ⟨0, _, _, _, _, _, _, _, by omega, rfl, HD3.out, HR3.out, HX3.out, HM3.out, HK3.out⟩
  case round =>
    clear HD3 HR3 HX3 HM3 HK3 HQ3
    obtain ⟨i, N, F, S, a1, b1, c1, d1, hi, rfl, HD, HR, HX, HM, HK⟩ := hrel
    by_cases hlt : i < m
    · obtain ⟨b, o, kind, file, x, y, s, kv, L, rfl, hb, e0, e1, e2, e3, e4, e5, hs, hx, hy, hL⟩ := HC.out i (by omega)
      have HM0 : Hid (∀ z, z < w.heap.size → N z) := fun z hz => HM.out z (.inl hz)
      obtain ⟨ka, km, kc, rfl⟩ : ∃ a m c, kv = .slice a m c := by obtain ⟨a, c, h1, _⟩ := hL; exact ⟨_, _, _, h1⟩
      have hsb : s.size ≤ 9223372036854775807 := by unfold maxLen at hs; omega
      have i0 : (0 : Int) ≤ (i : Int) := by omega
      have i1 : (i : Int) < (n : Int) := by omega
      have i2 : (i : Int) < 60 := by omega
      have tr : ∀ {j : Nat} {v : Value} {W : World}, w.cell? ⟨b, j, none⟩ = some v → Kept (fun z => z < w.heap.size) w W → W.cell? ⟨b, j, none⟩ = some v := fun {j v W} h k => (World.cell?_of_block (a := ⟨b, j, none⟩) (k.block b hb)).trans h
      have f0 := tr e0 HK.out
      have f1 := tr e1 HK.out
      have f2 := tr e2 HK.out
      have f3 := tr e3 HK.out
      have f4 := tr e4 HK.out
      have f5 := tr e5 HK.out
      obtain ⟨q0, q1, q2⟩ := cells3_of HX.out
      by_cases hX : s.size ≤ 4096
      · have hX2 : ¬ (4096 : Int) < (s.size : Int) := by omega
        have hqr : q < wr.heap.size := cell_lt q0
        have hbr : b < wr.heap.size := cell_lt f0
        have hcall : ∀ W, Below wr.heap.size wr W → Calls Try.prog 18 #[.pointer (some ⟨g, 0, none⟩), rval r a1 b1 c1 d1, .agg #[.int .i64 kind, .int .i64 file, .int .i64 x, .int .i64 y, .string s, .slice ka km kc]] W (DidPost W (NN N wr W) g r) := fun W k =>
          does_any (HD.out.below k) ((HR.out.below k).more fun z hz => .inl hz) kind file x y s hsb hx hy ((((hL.kept HK.out).more HM0.out).below k).more fun z hz => .inl hz)
        have HCALL := Lib.hid hcall
        unfold rval at HCALL
        have nq : ¬ q = wr.heap.size := by omega
        have nb : ¬ b = wr.heap.size := by omega
        clear hcall hX hsb hs hx hy hL tr e0 e1 e2 e3 e4 e5
        go_wp2_with fail
        go_region_held3 (fun w' => w'.cell? ⟨q, 0, none⟩ = some (.int .i64 (r : Nat)) ∧ w'.cell? ⟨q, 1, none⟩ = some (.slice (some ⟨a1, 0, none⟩) 256 c1) ∧ w'.cell? ⟨q, 2, none⟩ = some (.slice (some ⟨b1, 0, none⟩) 256 d1) ∧
            w'.cell? ⟨b, o + i * 6, none⟩ = some (.int .i64 kind) ∧ w'.cell? ⟨b, o + i * 6 + 1, none⟩ = some (.int .i64 file) ∧ w'.cell? ⟨b, o + i * 6 + 2, none⟩ = some (.int .i64 x) ∧ w'.cell? ⟨b, o + i * 6 + 3, none⟩ = some (.int .i64 y) ∧ w'.cell? ⟨b, o + i * 6 + 4, none⟩ = some (.string s) ∧ w'.cell? ⟨b, o + i * 6 + 5, none⟩ = some (.slice ka km kc)) (go_keep)
          (first
            | (go_at_call 18; refine (HCALL.out _ ((Below.refl _ _).drew)).mono ?_; rintro e w4 ⟨v, N4, F4, S4, rfl, hn4, hd4, hr4, hk4⟩; obtain ⟨a4, b4, c4, d4, rfl, hr4⟩ := hr4; unfold rval; have HN4 := Lib.hid hn4; have HD4 := Lib.hid hd4; have HR4 := Lib.hid hr4; have HK4 := Lib.hid hk4; clear hn4 hd4 hr4 hk4; have HX4 : Hid (w4.heap[q]? = some (.cells #[.int .i64 (r : Nat), .slice (some ⟨a1, 0, none⟩) 256 c1, .slice (some ⟨b1, 0, none⟩) 256 d1] 45 (0, 0))) := (after_does ((Below.refl _ _).drew) HK4.out (HM.out q (.inr rfl)) hqr).trans HX.out; obtain ⟨y0, y1, y2⟩ := cells3_of HX4.out; have hkb : w4.heap[b]? = wr.heap[b]? := after_does ((Below.refl _ _).drew) HK4.out (HM0.out b hb) hbr; have y3 := (World.cell?_of_block (a := ⟨b, o + i * 6, none⟩) hkb).trans f0; have y4 := (World.cell?_of_block (a := ⟨b, o + i * 6 + 1, none⟩) hkb).trans f1; have y5 := (World.cell?_of_block (a := ⟨b, o + i * 6 + 2, none⟩) hkb).trans f2; have y6 := (World.cell?_of_block (a := ⟨b, o + i * 6 + 3, none⟩) hkb).trans f3; have y7 := (World.cell?_of_block (a := ⟨b, o + i * 6 + 4, none⟩) hkb).trans f4; have y8 := (World.cell?_of_block (a := ⟨b, o + i * 6 + 5, none⟩) hkb).trans f5; have ny0 := World.new_ne w4 _ y0; have ny1 := World.new_ne w4 _ y3; clear hkb)
            | (go_at_call 18; refine (HCALL.out _ (((Below.refl _ _).alloc (Nat.le_refl _) _).drew)).mono ?_; rintro e w4 ⟨v, N4, F4, S4, rfl, hn4, hd4, hr4, hk4⟩; obtain ⟨a4, b4, c4, d4, rfl, hr4⟩ := hr4; unfold rval; have HN4 := Lib.hid hn4; have HD4 := Lib.hid hd4; have HR4 := Lib.hid hr4; have HK4 := Lib.hid hk4; clear hn4 hd4 hr4 hk4; have HX4 : Hid (w4.heap[q]? = some (.cells #[.int .i64 (r : Nat), .slice (some ⟨a1, 0, none⟩) 256 c1, .slice (some ⟨b1, 0, none⟩) 256 d1] 45 (0, 0))) := (after_does (((Below.refl _ _).alloc (Nat.le_refl _) _).drew) HK4.out (HM.out q (.inr rfl)) hqr).trans HX.out; obtain ⟨y0, y1, y2⟩ := cells3_of HX4.out; have hkb : w4.heap[b]? = wr.heap[b]? := after_does (((Below.refl _ _).alloc (Nat.le_refl _) _).drew) HK4.out (HM0.out b hb) hbr; have y3 := (World.cell?_of_block (a := ⟨b, o + i * 6, none⟩) hkb).trans f0; have y4 := (World.cell?_of_block (a := ⟨b, o + i * 6 + 1, none⟩) hkb).trans f1; have y5 := (World.cell?_of_block (a := ⟨b, o + i * 6 + 2, none⟩) hkb).trans f2; have y6 := (World.cell?_of_block (a := ⟨b, o + i * 6 + 3, none⟩) hkb).trans f3; have y7 := (World.cell?_of_block (a := ⟨b, o + i * 6 + 4, none⟩) hkb).trans f4; have y8 := (World.cell?_of_block (a := ⟨b, o + i * 6 + 5, none⟩) hkb).trans f5; have ny0 := World.new_ne w4 _ y0; have ny1 := World.new_ne w4 _ y3; clear hkb; have hz4 : w4.heap[wr.heap.size]? = some (.cells #[.int .i64 0, .slice none 0 0, .slice none 0 0] 45 (0, 0)) := (HK4.out.block wr.heap.size (.inr ⟨Nat.le_refl _, by simp⟩)).trans (heap_alloc_new wr _); obtain ⟨s0, s1, s2⟩ := cells3_of hz4; have v0 := frozen_of_row _ _ 0 _ _ hz4; have v1 := frozen_of_row _ _ 1 _ _ hz4; have v2 := frozen_of_row _ _ 2 _ _ hz4; have HZ4 := Lib.hid hz4; clear hz4; have t0 := far3 (g := wr.heap.size) (u0 := .int .i64 (r : Nat)) (u1 := .slice (some ⟨a4, 0, none⟩) 256 c4) (u2 := .slice (some ⟨b4, 0, none⟩) 256 d4) y0 nq; have t1 := far3 (g := wr.heap.size) (u0 := .int .i64 (r : Nat)) (u1 := .slice (some ⟨a4, 0, none⟩) 256 c4) (u2 := .slice (some ⟨b4, 0, none⟩) 256 d4) y1 nq; have t2 := far3 (g := wr.heap.size) (u0 := .int .i64 (r : Nat)) (u1 := .slice (some ⟨a4, 0, none⟩) 256 c4) (u2 := .slice (some ⟨b4, 0, none⟩) 256 d4) y2 nq; have t3 := far3 (g := wr.heap.size) (u0 := .int .i64 (r : Nat)) (u1 := .slice (some ⟨a4, 0, none⟩) 256 c4) (u2 := .slice (some ⟨b4, 0, none⟩) 256 d4) y3 nb; have t4 := far3 (g := wr.heap.size) (u0 := .int .i64 (r : Nat)) (u1 := .slice (some ⟨a4, 0, none⟩) 256 c4) (u2 := .slice (some ⟨b4, 0, none⟩) 256 d4) y4 nb; have t5 := far3 (g := wr.heap.size) (u0 := .int .i64 (r : Nat)) (u1 := .slice (some ⟨a4, 0, none⟩) 256 c4) (u2 := .slice (some ⟨b4, 0, none⟩) 256 d4) y5 nb; have t6 := far3 (g := wr.heap.size) (u0 := .int .i64 (r : Nat)) (u1 := .slice (some ⟨a4, 0, none⟩) 256 c4) (u2 := .slice (some ⟨b4, 0, none⟩) 256 d4) y6 nb; have t7 := far3 (g := wr.heap.size) (u0 := .int .i64 (r : Nat)) (u1 := .slice (some ⟨a4, 0, none⟩) 256 c4) (u2 := .slice (some ⟨b4, 0, none⟩) 256 d4) y7 nb; have t8 := far3 (g := wr.heap.size) (u0 := .int .i64 (r : Nat)) (u1 := .slice (some ⟨a4, 0, none⟩) 256 c4) (u2 := .slice (some ⟨b4, 0, none⟩) 256 d4) y8 nb))
        all_goals
          have hNN : ∀ z, z < w.heap.size ∨ z = q → N4 z := fun z hz => HN4.out z (.inl (HM.out z hz))
          first
            | (have hKK := HK.out.trans ((Kept.of_below ((Below.refl wr.heap.size wr).alloc (Nat.le_refl _) _).drew (fun z hz => by have := HK.out.size; have hz : z < w.heap.size := hz; omega)).trans (HK4.out.less fun z hz => .inl (HM0.out z hz)))
               have HMID := Lib.hid (mid_b (p := wr.heap.size) HD4.out HR4.out HX4.out HZ4.out (HN4.out _ (.inr ⟨Nat.le_refl _, by simp⟩)) nq (by have := HK.out.size; omega) hNN hKK)
               unfold stored3 at HMID
               clear hKK s0 s1 s2 v0 v1 v2 t0 t1 t2 t3 t4 t5 t6 t7 t8 HZ4)
            | (have hKK := HK.out.trans ((Kept.of_below (Below.refl wr.heap.size wr).drew (fun z hz => by have := HK.out.size; have hz : z < w.heap.size := hz; omega)).trans (HK4.out.less fun z hz => .inl (HM0.out z hz)))
               have HMID := Lib.hid (mid_a (g := g) HD4.out HR4.out HX4.out (cell_lt y0) hNN hKK)
               clear hKK)
          clear hNN y0 y1 y2 y3 y4 y5 y6 y7 y8 ny0 ny1 f0 f1 f2 f3 f4 f5 q0 q1 q2 HX4 HD4 HR4 HK4 HN4
          obtain ⟨x0, x1, x2⟩ := cells3_of HMID.out.bt
          obtain ⟨s0, s1, s2⟩ := cells3_of HMID.out.bq
          have v0 := frozen_of_row _ _ 0 _ _ HMID.out.bq
          have v1 := frozen_of_row _ _ 1 _ _ HMID.out.bq
          have v2 := frozen_of_row _ _ 2 _ _ HMID.out.bq
          go_wp2_with fail
          go_roundw
          case rel =>
            obtain ⟨m1, m2, m3, m4⟩ := HMID.out.turn (by omega)
            exact ⟨i + 1, _, _, _, _, _, _, _, by omega, i64_eq (by omega), m1, m2, m3, HMID.out.nq, m4⟩
          case measure => simp [intOf]; omega
      · have hX2 : (4096 : Int) < (s.size : Int) := by omega
        go_wp2_with fail
        refine (awake_any _).mono ?_
        rintro e w8 ⟨rfl, hb8⟩
        go_wp2_with fail
        go_ret
        have hbel := HK.out.below (B := w.heap.size) (fun x hx => hx)
        exact ⟨rfl, hbel.trans (hb8.mono hbel.size)⟩
    · obtain rfl : i = m := by omega
      have hguard : (¬ (i : Int) < (n : Int)) ∨ ((i : Int) < (n : Int) ∧ ¬ (i : Int) < 60) := by
        by_cases h : i < n
        · right
          have := HMY.out h
          subst this
          simp; omega
        · left; omega
      obtain ⟨q0, q1, q2⟩ := cells3_of HX.out
      have hsame := same_any HD.out HR.out
      have HS := Lib.hid hsame
      unfold rval at HS
      clear hsame
      rcases hguard with g1 | ⟨g1, g2⟩
      all_goals
        go_wp2_with fail
        refine HS.out.mono ?_
        rintro e w5 ⟨rfl, hK5⟩
        have hbel := (HK.out.trans (hK5.less fun z hz => HM.out z (.inl hz))).below (B := w.heap.size) (fun x hx => hx)
        go_wp2_with fail
        refine (awake_any _).mono ?_
        rintro e w8 ⟨rfl, hb8⟩
        go_wp2_with fail
        go_ret
        exact ⟨rfl, hbel.trans (hb8.mono hbel.size)⟩

theorem plays_main (room : Int) (a : Option Addr) (n c : Nat) (w : World) (hc : ∀ i, i < n → Scr w a i) (hn : n ≤ 9223372036854775807) :
    Calls Try.prog 6 #[.int .i64 room, .slice a n c] w fun e w' => e = .returned (.bool true) ∧ Below w.heap.size w w' := by
  by_cases h : room < 1 ∨ 16777216 < room
  · exact plays_bad room h a n c w
  · obtain ⟨r, rfl⟩ : ∃ r : Nat, room = (r : Nat) := ⟨room.toNat, by omega⟩
    exact plays_ok r (by omega) (by omega) a n c w hc hn
end Go.Proofs.Ytgcghdinccdphaa
