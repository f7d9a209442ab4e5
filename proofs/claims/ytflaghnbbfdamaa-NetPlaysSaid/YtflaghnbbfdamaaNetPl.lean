/-
  The law NetPlays: the net and the document's are played side by side: they never part.
-/
import Derived.Test.YtflaghnbbfdamaaNetZ
namespace Go.Proofs.Ytflaghnbbfdamaa
open Go.RowKit

/-- an element of the script, as it came -/
def Scr (w : World) (a : Option Addr) (i : Nat) : Prop := ∃ (b o : Nat) (kind x y : Int) (s : ByteArray), a = some ⟨b, o, none⟩ ∧ b < w.heap.size ∧
  w.cell? ⟨b, o + i * 4, none⟩ = some (.int .i64 kind) ∧ w.cell? ⟨b, o + i * 4 + 1, none⟩ = some (.int .i64 x) ∧ w.cell? ⟨b, o + i * 4 + 2, none⟩ = some (.int .i64 y) ∧ w.cell? ⟨b, o + i * 4 + 3, none⟩ = some (.string s) ∧ Fits x ∧ Fits y

theorem rd_turn {w : World} {N : Nat → Prop} {a sa : Option Addr} {c q la ca most : Nat} {r : Int} {L : List Lt} {V : Value} (h : Rd w N a c L) (hq : w.heap[q]? = some (.cells #[.int .i64 r, .slice sa la ca] 44 (0, 0))) : Rd (st2 w q most V) N a c L := by
  by_cases hL : L = []
  · subst hL
    obtain ⟨h1, h2, h3⟩ := h
    refine ⟨h1, h2, ?_⟩
    rcases h3 with h3 | ⟨b, ha, hn, hlt, _⟩
    · exact .inl h3
    · exact .inr ⟨b, ha, hn, by unfold st2; simpa [World.setCell] using hlt, fun i f t s hi => by simp at hi⟩
  · refine h.st2 fun b hb => ?_
    rintro rfl
    obtain ⟨⟨f, t, s⟩, hl⟩ : ∃ l, L[0]? = some l := ⟨_, List.getElem?_eq_getElem (List.length_pos_iff.2 hL)⟩
    obtain ⟨b', hb', _, _, _, k1, _⟩ := h.get hl
    rw [hb'] at hb
    injection hb with hb
    injection hb with hb
    subst hb
    rw [(cells2_of hq).2] at k1
    simp at k1
/-- behind does -/
structure Md (w W : World) (g q t most n : Nat) (a1 : Option Addr) (l1 c1 : Nat) (a : Option Addr) (c : Nat) (N : Nat → Prop) (L : List Lt) : Prop where
  net : Net W g N most n L
  rd : Rd W N a c L
  bq : W.heap[q]? = some (.cells #[.int .i64 (most : Nat), .slice a1 l1 c1] 44 (0, 0))
  bt : W.heap[t]? = some (.cells #[.int .i64 (most : Nat), .slice a L.length c] 44 (0, 0))
  nq : ∀ z, z < w.heap.size ∨ z = q → N z
  kept : Kept (fun z => z < w.heap.size) w W
theorem md_a {w w4 : World} {g q most n l1 c1 c : Nat} {a1 a : Option Addr} {N : Nat → Prop} {L : List Lt} (hD : Net w4 g N most n L) (hR : Rd w4 N a c L) (hX : w4.heap[q]? = some (.cells #[.int .i64 (most : Nat), .slice a1 l1 c1] 44 (0, 0)))
    (hq : q < w4.heap.size) (hN : ∀ z, z < w.heap.size ∨ z = q → N z) (hK : Kept (fun z => z < w.heap.size) w w4) :
    Md w (w4.alloc (.cells #[.int .i64 (most : Nat), .slice a L.length c] 44)) g q w4.heap.size most n a1 l1 c1 a c (NN N w4 (w4.alloc (.cells #[.int .i64 (most : Nat), .slice a L.length c] 44))) L := by
  have k : Below w4.heap.size w4 (w4.alloc (.cells #[.int .i64 (most : Nat), .slice a L.length c] 44)) := (Below.refl _ _).alloc (Nat.le_refl _) _
  exact ⟨hD.below k, (hR.below k).more fun z hz => .inl hz, (k.block q hq).trans hX, heap_alloc_new w4 _, fun z hz => .inl (hN z hz), hK.trans (Kept.of_below k fun z hz => by have := hK.size; have hz : z < w.heap.size := hz; omega)⟩
theorem md_b {w w4 : World} {g q p most n l1 c1 c : Nat} {a1 a : Option Addr} {N : Nat → Prop} {L : List Lt} (hD : Net w4 g N most n L) (hR : Rd w4 N a c L) (hX : w4.heap[q]? = some (.cells #[.int .i64 (most : Nat), .slice a1 l1 c1] 44 (0, 0)))
    (hZ : w4.heap[p]? = some (.cells #[.int .i64 0, .slice none 0 0] 44 (0, 0))) (hp : N p) (hqp : ¬ q = p) (hwp : w.heap.size ≤ p) (hN : ∀ z, z < w.heap.size ∨ z = q → N z) (hK : Kept (fun z => z < w.heap.size) w w4) :
    Md w (st2 w4 p most (.slice a L.length c)) g q p most n a1 l1 c1 a c N L := by
  have hn : ¬ p < w.heap.size := by omega
  exact ⟨(hD.store (p := ⟨p, 0, none⟩) hp _).store (p := ⟨p, 1, none⟩) hp _, rd_turn hR hZ, (st2_other hqp).trans hX, heap_setCell_same _ _ 1 _ _ _ (heap_setCell_same _ _ 0 _ _ _ hZ), hN,
    (hK.setCell (p := ⟨p, 0, none⟩) hn _).setCell (p := ⟨p, 1, none⟩) hn _⟩
theorem Md.turn {w W : World} {g q t most n l1 c1 c : Nat} {a1 a : Option Addr} {N : Nat → Prop} {L : List Lt} (h : Md w W g q t most n a1 l1 c1 a c N L) (hq : ¬ q < w.heap.size) :
    Net (st2 W q most (.slice a L.length c)) g N most n L ∧ Rd (st2 W q most (.slice a L.length c)) N a c L ∧ (st2 W q most (.slice a L.length c)).heap[q]? = some (.cells #[.int .i64 (most : Nat), .slice a L.length c] 44 (0, 0)) ∧ Kept (fun z => z < w.heap.size) w (st2 W q most (.slice a L.length c)) := by
  have hp := h.nq q (.inr rfl)
  exact ⟨(h.net.store (p := ⟨q, 0, none⟩) hp _).store (p := ⟨q, 1, none⟩) hp _, rd_turn h.rd h.bq, heap_setCell_same _ _ 1 _ _ _ (heap_setCell_same _ _ 0 _ _ _ h.bq),
    (h.kept.setCell (p := ⟨q, 0, none⟩) hq _).setCell (p := ⟨q, 1, none⟩) hq _⟩
theorem Md.drew {w W : World} {g q t most n l1 c1 c : Nat} {a1 a : Option Addr} {N : Nat → Prop} {L : List Lt} (h : Md w W g q t most n a1 l1 c1 a c N L) : Md w W.drew g q t most n a1 l1 c1 a c N L :=
  ⟨h.net.drew, h.rd.drew, h.bq, h.bt, h.nq, h.kept.drew⟩
theorem after_does {wr W w4 : World} {N : Nat → Prop} (k : Below wr.heap.size wr W) (hk : Kept (NN N wr W) W w4) {z : Nat} (hN : N z) (hz : z < wr.heap.size) : w4.heap[z]? = wr.heap[z]? :=
  (hk.block z (.inl hN)).trans (k.block z hz)

/-- how long the list of the document's net in block q is -/
def slen (w : World) (q : Nat) : Nat := match w.cell? ⟨q, 1, none⟩ with | some (.slice _ n _) => n | _ => 0
theorem slen_of {w : World} {q n c : Nat} {x : Value} {a : Option Addr} (h : w.heap[q]? = some (.cells #[x, .slice a n c] 44 (0, 0))) : slen w q = n := by
  unfold slen
  rw [(cells2_of h).2]

set_option maxRecDepth 100000 in
set_option maxHeartbeats 6400000 in
theorem plays_bad (room : Int) (hr : room < 1 ∨ 4096 < room) (a : Option Addr) (n c : Nat) (w : World) :
    Calls Try.prog 5 #[.int .i64 room, .slice a n c] w fun e w' => e = .returned (.bool true) ∧ Below w.heap.size w w' := by
  have HN := Lib.hid (new_no room hr)
  have HR := Lib.hid (rnew_no room hr)
  clear hr
  unfold qv at HR
  go_enter Try.func5, Try.ntmps5
  go_wp2_with fail
  refine (HN.out _).mono ?_
  rintro e w1 ⟨rfl, rfl⟩
  go_wp2_with fail
  refine (HR.out _).mono ?_
  rintro e w2 ⟨rfl, hb2⟩
  go_wp2_with fail
  have hb3 : Below w.heap.size w (w2.alloc (.cells #[.int .i64 0, .slice none 0 0] 44)) := hb2.alloc hb2.size _
  generalize w2.alloc (.cells #[.int .i64 0, .slice none 0 0] 44) = w3 at *
  refine (awake_any _).mono ?_
  rintro e w4 ⟨rfl, hb4⟩
  go_wp2_with fail
  go_ret
  exact ⟨rfl, hb3.trans (hb4.mono hb3.size)⟩

set_option maxRecDepth 100000 in
set_option maxHeartbeats 12800000 in
theorem plays_ok (r : Nat) (h0 : 1 ≤ r) (h1 : r ≤ 4096) (a : Option Addr) (n c : Nat) (w : World) (hc : ∀ i, i < n → Scr w a i) (hn : n ≤ 9223372036854775807) :
    Calls Try.prog 5 #[.int .i64 (r : Nat), .slice a n c] w fun e w' => e = .returned (.bool true) ∧ Below w.heap.size w w' := by
  have HN := Lib.hid (new_ok r h0 h1)
  have HR := Lib.hid (rnew_ok r h0 h1)
  have HC := Lib.hid hc
  obtain ⟨m, hm⟩ : ∃ m, m = min n 300 := ⟨_, rfl⟩
  have hmn : m ≤ n := by omega
  have hm60 : m ≤ 300 := by omega
  have HMY := Lib.hid (show m < n → m = 300 by omega)
  clear h0 h1 hc hm
  unfold qv at HR
  go_enter Try.func5, Try.ntmps5
  go_wp2_with fail
  refine (HN.out w).mono ?_
  rintro e w1 ⟨rfl, hD1, hB1⟩
  have HD1 := Lib.hid hD1
  have HB1 := Lib.hid hB1
  clear hD1 hB1
  obtain ⟨g, hg⟩ : ∃ g, g = w.heap.size + 1 := ⟨_, rfl⟩
  have hgw : w.heap.size ≤ g := by omega
  rw [← hg] at HD1
  rw [← hg]
  clear hg
  go_wp2_with fail
  refine (HR.out w1).mono ?_
  rintro e w2 ⟨rfl, hb2⟩
  have HB2 := Lib.hid hb2
  clear hb2 HN HR
  go_wp2_with fail
  have hb3 : Below w1.heap.size w1 (w2.alloc (.cells #[.int .i64 (r : Nat), .slice none 0 0] 44)) := HB2.out.alloc HB2.out.size _
  have hbox : (w2.alloc (.cells #[.int .i64 (r : Nat), .slice none 0 0] 44)).heap[w2.heap.size]? = some (.cells #[.int .i64 (r : Nat), .slice none 0 0] 44 (0, 0)) := heap_alloc_new w2 _
  obtain ⟨q, hq⟩ : ∃ q, q = w2.heap.size := ⟨_, rfl⟩
  rw [← hq] at hbox
  rw [← hq]
  have HQ : Hid (q = w2.heap.size) := hq
  clear hq
  generalize w2.alloc (.cells #[.int .i64 (r : Nat), .slice none 0 0] 44) = w3 at *
  have HQ3 : q < w3.heap.size := by
    rcases Nat.lt_or_ge q w3.heap.size with h | h
    · exact h
    · rw [Array.getElem?_eq_none h] at hbox
      cases hbox
  have HK3 : Hid (Kept (fun z => z < w.heap.size) w w3) := (Kept.of_below HB1.out fun z hz => hz).trans (Kept.of_below hb3 fun z hz => by have := HB1.out.size; have hz : z < w.heap.size := hz; omega)
  have HD3 : Hid (Net w3 g (NN (fun z => z < w.heap.size) w1 w3) r 0 []) := HD1.out.below hb3
  have HR3 : Hid (Rd w3 (NN (fun z => z < w.heap.size) w1 w3) none 0 []) := Rd.nil _ _
  have HM3 : Hid (∀ z, z < w.heap.size ∨ z = q → NN (fun z => z < w.heap.size) w1 w3 z) := by
    rintro z (hz | rfl)
    · exact .inl hz
    · exact .inr ⟨by rw [HQ.out]; exact HB2.out.size, HQ3⟩
  have HX3 := Lib.hid hbox
  have hqw : w.heap.size < q := by have := HD1.out.glt; have := HB2.out.size; have := HQ.out; omega
  clear hb3 hbox HD1 HB2 HQ
  go_loopw [9] (fun v wr => ∃ (i : Nat) (N : Nat → Prop) (k : Nat) (L : List Lt) (a : Option Addr) (c : Nat), i ≤ m ∧ v = .int .i64 i ∧ L.length ≤ i ∧ k ≤ 302 * i ∧ Hid (Net wr g N r k L) ∧ Hid (Rd wr N a c L) ∧ Hid (wr.heap[q]? = some (.cells #[.int .i64 (r : Nat), .slice a L.length c] 44 (0, 0))) ∧ Hid (∀ z, z < w.heap.size ∨ z = q → N z) ∧ Hid (Kept (fun z => z < w.heap.size) w wr)) (fun v _ => m - (intOf v).toNat)
  case atStart => exact ⟨0, _, 0, [], _, _, by omega, rfl, Nat.le_refl _, by omega, HD3.out, HR3.out, HX3.out, HM3.out, HK3.out⟩
  case round =>
    clear HD3 HR3 HX3 HM3 HK3 HQ3
    obtain ⟨i, N, k, L, a1, c1, hi, rfl, hLi, hki, HD, HR, HX, HM, HK⟩ := hrel
    by_cases hlt : i < m
    · obtain ⟨b, o, kind, x, y, s, rfl, hb, e0, e1, e2, e3, hx, hy⟩ := HC.out i (by omega)
      have HM0 : Hid (∀ z, z < w.heap.size → N z) := fun z hz => HM.out z (.inl hz)
      have i0 : (0 : Int) ≤ (i : Int) := by omega
      have i1 : (i : Int) < (n : Int) := by omega
      have i2 : (i : Int) < 300 := by omega
      have tr : ∀ {j : Nat} {v : Value} {W : World}, w.cell? ⟨b, j, none⟩ = some v → Kept (fun z => z < w.heap.size) w W → W.cell? ⟨b, j, none⟩ = some v := fun {j v W} h k => (World.cell?_of_block (a := ⟨b, j, none⟩) (k.block b hb)).trans h
      have f0 := tr e0 HK.out
      have f1 := tr e1 HK.out
      have f2 := tr e2 HK.out
      have f3 := tr e3 HK.out
      obtain ⟨q0, q1⟩ := cells2_of HX.out
      by_cases hX : 4096 < s.size ∧ s.size ≤ 1048576
      · have hX1 : (4096 : Int) < (s.size : Int) := by omega
        have hX2 : (s.size : Int) ≤ (1048576 : Int) := by omega
        clear hX
        go_wp2_with fail
        refine (awake_any _).mono ?_
        rintro e w8 ⟨rfl, hb8⟩
        go_wp2_with fail
        go_ret
        have hbel := HK.out.below (B := w.heap.size) (fun x hx => hx)
        exact ⟨rfl, hbel.trans (hb8.mono hbel.size)⟩
      · have hqr : q < wr.heap.size := cell_lt q0
        have hbr : b < wr.heap.size := cell_lt f0
        have hcall : ∀ W, Below wr.heap.size wr W → Calls Try.prog 14 #[.pointer (some ⟨g, 0, none⟩), qv r a1 L.length c1, .agg #[.int .i64 kind, .int .i64 x, .int .i64 y, .string s]] W (DidPost W (NN N wr W) g r (k + L.length + 1) fun L' => L'.length ≤ L.length + 1) := fun W kk =>
          does_any (HD.out.below kk) ((HR.out.below kk).more fun z hz => .inl hz) kind x y s hx hy (by omega) (by omega)
        have HCALL := Lib.hid hcall
        unfold qv at HCALL
        have nq : ¬ q = wr.heap.size := by omega
        have nb : ¬ b = wr.heap.size := by omega
        have hX0 : s.size ≤ 4096 ∨ 1048576 < s.size := by omega
        clear hcall hX hx hy tr e0 e1 e2 e3
        rcases hX0 with hX0 | hX0
        · have hX1 : ¬ (4096 : Int) < (s.size : Int) := by omega
          clear hX0
          go_wp2_with fail
          go_region_held3 (fun w' => w'.cell? ⟨q, 0, none⟩ = some (.int .i64 (r : Nat)) ∧ w'.cell? ⟨q, 1, none⟩ = some (.slice a1 L.length c1) ∧ w'.cell? ⟨b, o + i * 4, none⟩ = some (.int .i64 kind) ∧ w'.cell? ⟨b, o + i * 4 + 1, none⟩ = some (.int .i64 x) ∧ w'.cell? ⟨b, o + i * 4 + 2, none⟩ = some (.int .i64 y) ∧ w'.cell? ⟨b, o + i * 4 + 3, none⟩ = some (.string s)) (go_keep)
            (first
              | (go_at_call 14; refine (HCALL.out _ ((Below.refl wr.heap.size wr).drew)).mono ?_; rintro e w4 ⟨v, N4, n4, L4, rfl, hn4, hd4, hr4, hk4, hm4, hl4⟩; obtain ⟨a4, c4, rfl, hr4⟩ := hr4; unfold qv; have HN4 := Lib.hid hn4; have HD4 := Lib.hid hd4; have HR4 := Lib.hid hr4; have HK4 := Lib.hid hk4; have HM4 := Lib.hid hm4; have HL4 := Lib.hid hl4; clear hn4 hd4 hr4 hk4 hm4 hl4; have HX4 : Hid (w4.heap[q]? = some (.cells #[.int .i64 (r : Nat), .slice a1 L.length c1] 44 (0, 0))) := (after_does ((Below.refl wr.heap.size wr).drew) HK4.out (HM.out q (.inr rfl)) hqr).trans HX.out; obtain ⟨y0, y1⟩ := cells2_of HX4.out; have hkb : w4.heap[b]? = wr.heap[b]? := after_does ((Below.refl wr.heap.size wr).drew) HK4.out (HM0.out b hb) hbr; have y2 := (World.cell?_of_block (a := ⟨b, o + i * 4, none⟩) hkb).trans f0; have y3 := (World.cell?_of_block (a := ⟨b, o + i * 4 + 1, none⟩) hkb).trans f1; have y4 := (World.cell?_of_block (a := ⟨b, o + i * 4 + 2, none⟩) hkb).trans f2; have y5 := (World.cell?_of_block (a := ⟨b, o + i * 4 + 3, none⟩) hkb).trans f3; have ny0 := World.new_ne w4 _ y0; have ny1 := World.new_ne w4 _ y2; clear hkb)
              | (go_at_call 14; refine (HCALL.out _ (((Below.refl wr.heap.size wr).alloc (Nat.le_refl _) _).drew)).mono ?_; rintro e w4 ⟨v, N4, n4, L4, rfl, hn4, hd4, hr4, hk4, hm4, hl4⟩; obtain ⟨a4, c4, rfl, hr4⟩ := hr4; unfold qv; have HN4 := Lib.hid hn4; have HD4 := Lib.hid hd4; have HR4 := Lib.hid hr4; have HK4 := Lib.hid hk4; have HM4 := Lib.hid hm4; have HL4 := Lib.hid hl4; clear hn4 hd4 hr4 hk4 hm4 hl4; have HX4 : Hid (w4.heap[q]? = some (.cells #[.int .i64 (r : Nat), .slice a1 L.length c1] 44 (0, 0))) := (after_does (((Below.refl wr.heap.size wr).alloc (Nat.le_refl _) _).drew) HK4.out (HM.out q (.inr rfl)) hqr).trans HX.out; obtain ⟨y0, y1⟩ := cells2_of HX4.out; have hkb : w4.heap[b]? = wr.heap[b]? := after_does (((Below.refl wr.heap.size wr).alloc (Nat.le_refl _) _).drew) HK4.out (HM0.out b hb) hbr; have y2 := (World.cell?_of_block (a := ⟨b, o + i * 4, none⟩) hkb).trans f0; have y3 := (World.cell?_of_block (a := ⟨b, o + i * 4 + 1, none⟩) hkb).trans f1; have y4 := (World.cell?_of_block (a := ⟨b, o + i * 4 + 2, none⟩) hkb).trans f2; have y5 := (World.cell?_of_block (a := ⟨b, o + i * 4 + 3, none⟩) hkb).trans f3; have ny0 := World.new_ne w4 _ y0; have ny1 := World.new_ne w4 _ y2; clear hkb; have hz4 : w4.heap[wr.heap.size]? = some (.cells #[.int .i64 0, .slice none 0 0] 44 (0, 0)) := (HK4.out.block wr.heap.size (.inr ⟨Nat.le_refl _, by simp⟩)).trans (heap_alloc_new wr _); obtain ⟨s0, s1⟩ := cells2_of hz4; have v0 := frozen_of_row _ _ 0 _ _ hz4; have v1 := frozen_of_row _ _ 1 _ _ hz4; have HZ4 := Lib.hid hz4; clear hz4; have t0 := far2 (g := wr.heap.size) (u0 := .int .i64 (r : Nat)) (u1 := .slice a4 L4.length c4) y0 nq; have t1 := far2 (g := wr.heap.size) (u0 := .int .i64 (r : Nat)) (u1 := .slice a4 L4.length c4) y1 nq; have t2 := far2 (g := wr.heap.size) (u0 := .int .i64 (r : Nat)) (u1 := .slice a4 L4.length c4) y2 nb; have t3 := far2 (g := wr.heap.size) (u0 := .int .i64 (r : Nat)) (u1 := .slice a4 L4.length c4) y3 nb; have t4 := far2 (g := wr.heap.size) (u0 := .int .i64 (r : Nat)) (u1 := .slice a4 L4.length c4) y4 nb; have t5 := far2 (g := wr.heap.size) (u0 := .int .i64 (r : Nat)) (u1 := .slice a4 L4.length c4) y5 nb))
          all_goals
            have hNN : ∀ z, z < w.heap.size ∨ z = q → N4 z := fun z hz => HN4.out z (.inl (HM.out z hz))
            first
              | (have hKK := HK.out.trans ((Kept.of_below ((Below.refl wr.heap.size wr).alloc (Nat.le_refl _) _).drew (fun z hz => by have := HK.out.size; have hz : z < w.heap.size := hz; omega)).trans (HK4.out.less fun z hz => .inl (HM0.out z hz)))
                 have HMID := Lib.hid (md_b (p := wr.heap.size) HD4.out HR4.out HX4.out HZ4.out (HN4.out _ (.inr ⟨Nat.le_refl _, by simp⟩)) nq (by have := HK.out.size; omega) hNN hKK)
                 unfold st2 at HMID
                 clear hKK s0 s1 v0 v1 t0 t1 t2 t3 t4 t5 HZ4
                 generalize (w4.setCell ⟨wr.heap.size, 0, none⟩ (.int .i64 (r : Nat))).setCell ⟨wr.heap.size, 1, none⟩ (.slice a4 L4.length c4) = wm at *
                 obtain ⟨tt, htt⟩ : ∃ tt, tt = wr.heap.size := ⟨_, rfl⟩
                 rw [← htt] at HMID ⊢
                 clear htt)
              | (have hKK := HK.out.trans ((Kept.of_below (Below.refl wr.heap.size wr).drew (fun z hz => by have := HK.out.size; have hz : z < w.heap.size := hz; omega)).trans (HK4.out.less fun z hz => .inl (HM0.out z hz)))
                 have HMID := Lib.hid (md_a (g := g) HD4.out HR4.out HX4.out (cell_lt y0) hNN hKK)
                 clear hKK
                 generalize w4.alloc (.cells #[.int .i64 (r : Nat), .slice a4 L4.length c4] 44) = wm at *
                 obtain ⟨tt, htt⟩ : ∃ tt, tt = w4.heap.size := ⟨_, rfl⟩
                 rw [← htt] at HMID ⊢
                 clear htt)
            have hl4 := HL4.out
            have hm4 := HM4.out
            clear hNN y0 y1 y2 y3 y4 y5 ny0 ny1 f0 f1 f2 f3 q0 q1 HX4 HD4 HR4 HK4 HN4 HL4 HM4 HCALL nq nb
            obtain ⟨x0, x1⟩ := cells2_of HMID.out.bt
            obtain ⟨s0, s1⟩ := cells2_of HMID.out.bq
            have v0 := frozen_of_row _ _ 0 _ _ HMID.out.bq
            have v1 := frozen_of_row _ _ 1 _ _ HMID.out.bq
            go_wp2_with fail
            go_region_held3 (fun w' => w'.cell? ⟨tt, 1, none⟩ = some (.slice a4 L4.length c4)) (go_keep)
              (first
                | (go_at_call 10; refine (len_ok (by first | exact HMID.out.net.drew | exact HMID.out.net)).mono ?_; rintro e w5 ⟨rfl, rfl⟩))
            all_goals
              go_wp2_with fail
              go_roundw
              case rel =>
                obtain ⟨m1, m2, m3, m4⟩ := HMID.out.drew.turn (by omega)
                exact ⟨i + 1, _, n4, L4, _, _, by omega, i64_eq (by omega), by omega, by omega, m1, m2, m3, HMID.out.nq, m4⟩
              case measure => simp [intOf]; omega
        · have hX1 : (4096 : Int) < (s.size : Int) := by omega
          have hX2 : ¬ (s.size : Int) ≤ (1048576 : Int) := by omega
          clear hX0
          go_wp2_with fail
          go_region_held3 (fun w' => w'.cell? ⟨q, 0, none⟩ = some (.int .i64 (r : Nat)) ∧ w'.cell? ⟨q, 1, none⟩ = some (.slice a1 L.length c1) ∧ w'.cell? ⟨b, o + i * 4, none⟩ = some (.int .i64 kind) ∧ w'.cell? ⟨b, o + i * 4 + 1, none⟩ = some (.int .i64 x) ∧ w'.cell? ⟨b, o + i * 4 + 2, none⟩ = some (.int .i64 y) ∧ w'.cell? ⟨b, o + i * 4 + 3, none⟩ = some (.string s)) (go_keep)
            (first
              | (go_at_call 14; refine (HCALL.out _ ((Below.refl wr.heap.size wr).drew)).mono ?_; rintro e w4 ⟨v, N4, n4, L4, rfl, hn4, hd4, hr4, hk4, hm4, hl4⟩; obtain ⟨a4, c4, rfl, hr4⟩ := hr4; unfold qv; have HN4 := Lib.hid hn4; have HD4 := Lib.hid hd4; have HR4 := Lib.hid hr4; have HK4 := Lib.hid hk4; have HM4 := Lib.hid hm4; have HL4 := Lib.hid hl4; clear hn4 hd4 hr4 hk4 hm4 hl4; have HX4 : Hid (w4.heap[q]? = some (.cells #[.int .i64 (r : Nat), .slice a1 L.length c1] 44 (0, 0))) := (after_does ((Below.refl wr.heap.size wr).drew) HK4.out (HM.out q (.inr rfl)) hqr).trans HX.out; obtain ⟨y0, y1⟩ := cells2_of HX4.out; have hkb : w4.heap[b]? = wr.heap[b]? := after_does ((Below.refl wr.heap.size wr).drew) HK4.out (HM0.out b hb) hbr; have y2 := (World.cell?_of_block (a := ⟨b, o + i * 4, none⟩) hkb).trans f0; have y3 := (World.cell?_of_block (a := ⟨b, o + i * 4 + 1, none⟩) hkb).trans f1; have y4 := (World.cell?_of_block (a := ⟨b, o + i * 4 + 2, none⟩) hkb).trans f2; have y5 := (World.cell?_of_block (a := ⟨b, o + i * 4 + 3, none⟩) hkb).trans f3; have ny0 := World.new_ne w4 _ y0; have ny1 := World.new_ne w4 _ y2; clear hkb)
              | (go_at_call 14; refine (HCALL.out _ (((Below.refl wr.heap.size wr).alloc (Nat.le_refl _) _).drew)).mono ?_; rintro e w4 ⟨v, N4, n4, L4, rfl, hn4, hd4, hr4, hk4, hm4, hl4⟩; obtain ⟨a4, c4, rfl, hr4⟩ := hr4; unfold qv; have HN4 := Lib.hid hn4; have HD4 := Lib.hid hd4; have HR4 := Lib.hid hr4; have HK4 := Lib.hid hk4; have HM4 := Lib.hid hm4; have HL4 := Lib.hid hl4; clear hn4 hd4 hr4 hk4 hm4 hl4; have HX4 : Hid (w4.heap[q]? = some (.cells #[.int .i64 (r : Nat), .slice a1 L.length c1] 44 (0, 0))) := (after_does (((Below.refl wr.heap.size wr).alloc (Nat.le_refl _) _).drew) HK4.out (HM.out q (.inr rfl)) hqr).trans HX.out; obtain ⟨y0, y1⟩ := cells2_of HX4.out; have hkb : w4.heap[b]? = wr.heap[b]? := after_does (((Below.refl wr.heap.size wr).alloc (Nat.le_refl _) _).drew) HK4.out (HM0.out b hb) hbr; have y2 := (World.cell?_of_block (a := ⟨b, o + i * 4, none⟩) hkb).trans f0; have y3 := (World.cell?_of_block (a := ⟨b, o + i * 4 + 1, none⟩) hkb).trans f1; have y4 := (World.cell?_of_block (a := ⟨b, o + i * 4 + 2, none⟩) hkb).trans f2; have y5 := (World.cell?_of_block (a := ⟨b, o + i * 4 + 3, none⟩) hkb).trans f3; have ny0 := World.new_ne w4 _ y0; have ny1 := World.new_ne w4 _ y2; clear hkb; have hz4 : w4.heap[wr.heap.size]? = some (.cells #[.int .i64 0, .slice none 0 0] 44 (0, 0)) := (HK4.out.block wr.heap.size (.inr ⟨Nat.le_refl _, by simp⟩)).trans (heap_alloc_new wr _); obtain ⟨s0, s1⟩ := cells2_of hz4; have v0 := frozen_of_row _ _ 0 _ _ hz4; have v1 := frozen_of_row _ _ 1 _ _ hz4; have HZ4 := Lib.hid hz4; clear hz4; have t0 := far2 (g := wr.heap.size) (u0 := .int .i64 (r : Nat)) (u1 := .slice a4 L4.length c4) y0 nq; have t1 := far2 (g := wr.heap.size) (u0 := .int .i64 (r : Nat)) (u1 := .slice a4 L4.length c4) y1 nq; have t2 := far2 (g := wr.heap.size) (u0 := .int .i64 (r : Nat)) (u1 := .slice a4 L4.length c4) y2 nb; have t3 := far2 (g := wr.heap.size) (u0 := .int .i64 (r : Nat)) (u1 := .slice a4 L4.length c4) y3 nb; have t4 := far2 (g := wr.heap.size) (u0 := .int .i64 (r : Nat)) (u1 := .slice a4 L4.length c4) y4 nb; have t5 := far2 (g := wr.heap.size) (u0 := .int .i64 (r : Nat)) (u1 := .slice a4 L4.length c4) y5 nb))
          all_goals
            have hNN : ∀ z, z < w.heap.size ∨ z = q → N4 z := fun z hz => HN4.out z (.inl (HM.out z hz))
            first
              | (have hKK := HK.out.trans ((Kept.of_below ((Below.refl wr.heap.size wr).alloc (Nat.le_refl _) _).drew (fun z hz => by have := HK.out.size; have hz : z < w.heap.size := hz; omega)).trans (HK4.out.less fun z hz => .inl (HM0.out z hz)))
                 have HMID := Lib.hid (md_b (p := wr.heap.size) HD4.out HR4.out HX4.out HZ4.out (HN4.out _ (.inr ⟨Nat.le_refl _, by simp⟩)) nq (by have := HK.out.size; omega) hNN hKK)
                 unfold st2 at HMID
                 clear hKK s0 s1 v0 v1 t0 t1 t2 t3 t4 t5 HZ4
                 generalize (w4.setCell ⟨wr.heap.size, 0, none⟩ (.int .i64 (r : Nat))).setCell ⟨wr.heap.size, 1, none⟩ (.slice a4 L4.length c4) = wm at *
                 obtain ⟨tt, htt⟩ : ∃ tt, tt = wr.heap.size := ⟨_, rfl⟩
                 rw [← htt] at HMID ⊢
                 clear htt)
              | (have hKK := HK.out.trans ((Kept.of_below (Below.refl wr.heap.size wr).drew (fun z hz => by have := HK.out.size; have hz : z < w.heap.size := hz; omega)).trans (HK4.out.less fun z hz => .inl (HM0.out z hz)))
                 have HMID := Lib.hid (md_a (g := g) HD4.out HR4.out HX4.out (cell_lt y0) hNN hKK)
                 clear hKK
                 generalize w4.alloc (.cells #[.int .i64 (r : Nat), .slice a4 L4.length c4] 44) = wm at *
                 obtain ⟨tt, htt⟩ : ∃ tt, tt = w4.heap.size := ⟨_, rfl⟩
                 rw [← htt] at HMID ⊢
                 clear htt)
            have hl4 := HL4.out
            have hm4 := HM4.out
            clear hNN y0 y1 y2 y3 y4 y5 ny0 ny1 f0 f1 f2 f3 q0 q1 HX4 HD4 HR4 HK4 HN4 HL4 HM4 HCALL nq nb
            obtain ⟨x0, x1⟩ := cells2_of HMID.out.bt
            obtain ⟨s0, s1⟩ := cells2_of HMID.out.bq
            have v0 := frozen_of_row _ _ 0 _ _ HMID.out.bq
            have v1 := frozen_of_row _ _ 1 _ _ HMID.out.bq
            go_wp2_with fail
            go_region_held3 (fun w' => w'.cell? ⟨tt, 1, none⟩ = some (.slice a4 L4.length c4)) (go_keep)
              (first
                | (go_at_call 10; refine (len_ok (by first | exact HMID.out.net.drew | exact HMID.out.net)).mono ?_; rintro e w5 ⟨rfl, rfl⟩))
            all_goals
              go_wp2_with fail
              go_roundw
              case rel =>
                obtain ⟨m1, m2, m3, m4⟩ := HMID.out.drew.turn (by omega)
                exact ⟨i + 1, _, n4, L4, _, _, by omega, i64_eq (by omega), by omega, by omega, m1, m2, m3, HMID.out.nq, m4⟩
              case measure => simp [intOf]; omega
    · obtain rfl : i = m := by omega
      have hguard : (¬ (i : Int) < (n : Int)) ∨ ((i : Int) < (n : Int) ∧ ¬ (i : Int) < 300) := by
        by_cases h : i < n
        · right
          have := HMY.out h
          subst this
          simp; omega
        · left; omega
      obtain ⟨q0, q1⟩ := cells2_of HX.out
      have hL300 : L.length ≤ 300 := by omega
      have hk300 : k + 302 * L.length ≤ 200000 := by omega
      clear hLi hki hlt HC
      rcases hguard with g1 | ⟨g1, g2⟩
      all_goals
        go_wp2_with fail
        go_loopw [13] (fun v wx => ∃ (N : Nat → Prop) (k : Nat) (L : List Lt) (a : Option Addr) (c : Nat), L.length ≤ 300 ∧ k + 302 * L.length ≤ 200000 ∧ Hid (Net wx g N r k L) ∧ Hid (Rd wx N a c L) ∧ Hid (wx.heap[q]? = some (.cells #[.int .i64 (r : Nat), .slice a L.length c] 44 (0, 0))) ∧ Hid (∀ z, z < w.heap.size ∨ z = q → N z) ∧ Hid (Kept (fun z => z < w.heap.size) w wx)) (fun _ wx => slen wx q)
        case atStart => exact ⟨N, k, L, a1, c1, hL300, hk300, HD.out, HR.out, HX.out, HM.out, HK.out⟩
        case round =>
          clear HD HR HX HM HK q0 q1 hL300 hk300
          obtain ⟨N2, k2, L2, a2, c2, hl2, hk2, HD2, HR2, HX2, HM2, HK2⟩ := hrel
          obtain ⟨q0, q1⟩ := cells2_of HX2.out
          by_cases hpos : 0 < L2.length
          · have hp : (0 : Int) < (L2.length : Int) := by omega
            have hcall := does_take HD2.out HR2.out 0 0 ⟨#[]⟩ (by omega) (by omega)
            unfold qv at hcall
            have HCALL := Lib.hid hcall
            have HM0 : Hid (∀ z, z < w.heap.size → N2 z) := fun z hz => HM2.out z (.inl hz)
            clear hcall
            go_wp2_with fail
            refine HCALL.out.mono ?_
            rintro e w4 ⟨v, N4, n4, L4, rfl, hn4, hd4, hr4, hk4, hm4, hl4⟩
            obtain ⟨a4, c4, rfl, hr4⟩ := hr4
            unfold qv
            have HX4 : Hid (w4.heap[q]? = some (.cells #[.int .i64 (r : Nat), .slice a2 L2.length c2] 44 (0, 0))) := (hk4.block q (HM2.out q (.inr rfl))).trans HX2.out
            have hKK := HK2.out.trans (hk4.less fun z hz => HM0.out z hz)
            have hmd := md_a (g := g) hd4 hr4 HX4.out (cell_lt (p := ⟨q, 0, none⟩) (cells2_of HX4.out).1) (fun z hz => hn4 z (HM2.out z hz)) hKK
            have HMID := Lib.hid hmd
            have HSL := Lib.hid (slen_of HX2.out)
            have HL4 := Lib.hid hl4
            have HM4 := Lib.hid hm4
            clear hn4 hd4 hr4 hk4 hKK hmd HCALL q0 q1 hl4 hm4
            obtain ⟨x0, x1⟩ := cells2_of HMID.out.bt
            obtain ⟨s0, s1⟩ := cells2_of HMID.out.bq
            have v0 := frozen_of_row _ _ 0 _ _ HMID.out.bq
            have v1 := frozen_of_row _ _ 1 _ _ HMID.out.bq
            go_wp2_with fail
            obtain ⟨m1, m2, m3, m4⟩ := HMID.out.turn (by omega)
            have hl4 := HL4.out
            have hm4 := HM4.out
            go_roundw
            case rel => exact ⟨_, n4, L4, _, _, by omega, by omega, m1, m2, m3, HMID.out.nq, m4⟩
            case measure =>
              have e1 := slen_of m3
              unfold st2 at e1
              have e2 := HSL.out
              simp only [e1, e2]
              omega
          · have hp : ¬ (0 : Int) < (L2.length : Int) := by omega
            have hL0 : L2 = [] := List.length_eq_zero_iff.1 (by omega)
            subst hL0
            have HLE := Lib.hid (len_ok HD2.out)
            go_wp2_with fail
            refine HLE.out.mono ?_
            rintro e w5 ⟨rfl, rfl⟩
            go_wp2_with fail
            refine (awake_any _).mono ?_
            rintro e w8 ⟨rfl, hb8⟩
            go_wp2_with fail
            go_ret
            have hbel := HK2.out.below (B := w.heap.size) (fun x hx => hx)
            exact ⟨rfl, hbel.trans (hb8.mono hbel.size)⟩

theorem plays_main (room : Int) (a : Option Addr) (n c : Nat) (w : World) (hc : ∀ i, i < n → Scr w a i) (hn : n ≤ 9223372036854775807) :
    Calls Try.prog 5 #[.int .i64 room, .slice a n c] w fun e w' => e = .returned (.bool true) ∧ Below w.heap.size w w' := by
  by_cases h : room < 1 ∨ 4096 < room
  · exact plays_bad room h a n c w
  · obtain ⟨r, rfl⟩ : ∃ r : Nat, room = (r : Nat) := ⟨room.toNat, by omega⟩
    exact plays_ok r (by omega) (by omega) a n c w hc hn
end Go.Proofs.Ytflaghnbbfdamaa
