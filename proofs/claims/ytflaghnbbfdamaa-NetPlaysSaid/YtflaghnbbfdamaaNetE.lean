/-
  Put, where there is room.
-/
import Derived.Test.YtflaghnbbfdamaaNetD
import Derived.Deep.RegionLaw
import Derived.IntWalk
namespace Go.Proofs.Ytflaghnbbfdamaa
open Go.RowKit

/-- a net of which the map lags behind the letters -/
structure Half (w : World) (g : Nat) (N : Nat → Prop) (V : Value) (m most n : Nat) (L : List Lt) (C : Int → Int → Int) : Prop where
  c0 : w.cell? ⟨g, 0, none⟩ = some (.int .i64 (most : Nat))
  c1 : w.cell? ⟨g, 1, none⟩ = some V
  c2 : w.cell? ⟨g, 2, none⟩ = some (.map (some m))
  free : ∀ o, w.frozen? ⟨g, o, none⟩ = false
  row : w.ownsRow (g + 1) 30 3 V L.length (lets L)
  mp : Mp w m n C
  mg : m < g
  mine : ¬ N g
  minem : ¬ N m
  mines : ∀ b, V.ownBlock = some b → ¬ N b
  lt : ∀ b, N b → b < w.heap.size
  most1 : 1 ≤ most
  most2 : most ≤ 4096
  good : ∀ l ∈ L, Good l
theorem Half.done {w w' : World} {g m most n k : Nat} {N : Nat → Prop} {V : Value} {L : List Lt} {C : Int → Int → Int} (h : Half w g N V m most n L C) (hs : w.heap.size ≤ w'.heap.size) (hb : ∀ b, b < w.heap.size → b ≠ m → w'.heap[b]? = w.heap[b]?)
    (hm : Mp w' m k (fun f t => ((ct L f t : Nat) : Int))) : Nx w' g N V m most k L := by
  have hg := hb g (cell_lt h.c0) (by have := h.mg; omega)
  exact ⟨(World.cell?_of_block (a := ⟨g, 0, none⟩) hg).trans h.c0, (World.cell?_of_block (a := ⟨g, 1, none⟩) hg).trans h.c1, (World.cell?_of_block (a := ⟨g, 2, none⟩) hg).trans h.c2,
    fun o => (World.frozen?_of_block (a := ⟨g, o, none⟩) hg).trans (h.free o), own_move h.row (fun b e => hb b (own_lt h.row b e).2 (by have := (own_lt h.row b e).1; have := h.mg; omega)), hm, h.mg, h.mine, h.minem, h.mines,
    fun b hN => Nat.lt_of_lt_of_le (h.lt b hN) hs, h.most1, h.most2, h.good⟩
theorem ct_append (L : List Lt) (f t : Int) (s : ByteArray) : upd2 (fun f t => ((ct L f t : Nat) : Int)) f t (((ct L f t : Nat) : Int) + 1) = fun x y => ((ct (L ++ [(f, t, s)]) x y : Nat) : Int) := by
  funext x y
  unfold upd2 ct
  rw [List.countP_append]
  by_cases e : x = f ∧ y = t
  · obtain ⟨rfl, rfl⟩ := e
    simp
  · rw [if_neg e]
    have : (decide (f = x) && decide (t = y)) = false := by
      rw [Bool.and_eq_false_iff]
      by_cases e1 : f = x
      · right; simp; rintro rfl; exact e ⟨e1.symm, rfl⟩
      · left; simpa using e1
    simp [this]
theorem ct_le (L : List Lt) (f t : Int) : ct L f t ≤ L.length := List.countP_le_length
theorem half_append {w w' w5 : World} {g m most n gg cap : Nat} {N : Nat → Prop} {V : Value} {L : List Lt} (h : Nx w g N V m most n L) {l : Lt} (hl : Good l) (hs : w.heap.size ≤ w'.heap.size) (hb : ∀ b, b < w.heap.size → w'.heap[b]? = w.heap[b]?) (hk : Kept N w w')
    (hgrow : w'.grownBy w5 V.ownBlock) (hown : w5.ownsRow (g + 1) 30 3 (.slice (some ⟨gg, 0, none⟩) (L.length + 1) cap) (L.length + 1) (lets L ++ [.int .i64 l.1, .int .i64 l.2.1, .string l.2.2])) (hat : V.ownBlock = some gg ∨ gg = w.heap.size + 1) :
    Half (w5.setCell ⟨g, 1, none⟩ (.slice (some ⟨gg, 0, none⟩) (L.length + 1) cap)) g N (.slice (some ⟨gg, 0, none⟩) (L.length + 1) cap) m most n (L ++ [l]) (fun f t => ((ct L f t : Nat) : Int)) ∧
      Kept N w (w5.setCell ⟨g, 1, none⟩ (.slice (some ⟨gg, 0, none⟩) (L.length + 1) cap)) := by
  have hgl := h.glt
  have hml := h.mp.lt
  have hmg := h.mg
  have hge : w5.heap[g]? = w.heap[g]? := (hgrow.block g (by omega) (fun e => (h.ne g e.symm).1 rfl)).trans (hb g hgl)
  have hme : w5.heap[m]? = w.heap[m]? := (hgrow.block m (by omega) (fun e => (h.ne m e.symm).2.1 rfl)).trans (hb m hml)
  have hc : ∀ o, w5.cell? ⟨g, o, none⟩ = w.cell? ⟨g, o, none⟩ := fun o => World.cell?_of_block (a := ⟨g, o, none⟩) hge
  have hfr : ∀ o, w5.frozen? ⟨g, o, none⟩ = w.frozen? ⟨g, o, none⟩ := fun o => World.frozen?_of_block (a := ⟨g, o, none⟩) hge
  have hll : (L ++ [l]).length = L.length + 1 := by simp
  have hle : lets (L ++ [l]) = lets L ++ [.int .i64 l.1, .int .i64 l.2.1, .string l.2.2] := by rw [lets_append]; rfl
  refine ⟨⟨?_, ?_, ?_, ?_, ?_, ?_, hmg, h.mine, h.minem, ?_, ?_, h.most1, h.most2, ?_⟩, ?_⟩
  · rw [World.cell?_setCell_other (h := by simp), hc]; exact h.c0
  · rw [World.cell?_setCell_same (h := (hc _).trans h.c1)]
  · rw [World.cell?_setCell_other (h := by simp), hc]; exact h.c2
  · intro o; rw [World.frozen?_setCell, hfr]; exact h.free o
  · rw [hll, hle]
    exact ownsRow_setCell_below hown (show g < g + 1 by omega) _
  · exact h.mp.move ((Below.heap_setCell _ _ _ _ (show m ≠ g by omega)).trans hme)
  · intro b e
    have e : gg = b := by simpa [Value.ownBlock] using e
    subst e
    rcases hat with hat | hat
    · exact h.mines gg hat
    · intro hN; have := h.lt gg hN; omega
  · intro b hN
    have := h.lt b hN
    have := hgrow.size
    simp [World.setCell]
    omega
  · intro x hx
    rcases List.mem_append.1 hx with hx | hx
    · exact h.good x hx
    · rw [List.mem_singleton.1 hx]; exact hl
  · refine (hk.grown hgrow (fun x e hN => h.mines x e hN) (fun x hN => by have := h.lt x hN; omega)).setCell (p := ⟨g, 1, none⟩) h.mine _

set_option maxRecDepth 100000 in
set_option maxHeartbeats 6400000 in
theorem put_ok {w : World} {g most n : Nat} {N : Nat → Prop} {L : List Lt} (h : Net w g N most n L) (f t : Int) (s : ByteArray) (hg : Good (f, t, s)) (hfull : ct L f t < most) (hL : L.length ≤ 1000000) (hn : n ≤ 1000000) :
    Calls Try.prog 8 #[.pointer (some ⟨g, 0, none⟩), .agg #[.int .i64 f, .int .i64 t, .string s]] w fun e w' => e = .returned (.int .i64 0) ∧ Net w' g N most (n + 1) (L ++ [(f, t, s)]) ∧ Kept N w w' := by
  obtain ⟨V, m, h⟩ := h
  have HGD := Lib.hid hg
  have HCT := Lib.hid hfull
  have HLN := Lib.hid hL
  have HNN := Lib.hid hn
  obtain ⟨f0, f1, t0, t1, b1⟩ := hg
  obtain ⟨i0, hi0, hz0, hz1, hz2⟩ := info_parts info30
  have f0' : ¬ f < 0 := by simpa using f0
  have f1' : ¬ 255 < f := by simpa using f1
  have t0' : ¬ t < 0 := by simpa using t0
  have t1' : ¬ 255 < t := by simpa using t1
  have b1' : ¬ (1048576 : Int) < (s.size : Int) := by have : s.size ≤ 1048576 := b1; omega
  have hff : ¬ (most : Int) ≤ ((ct L f t : Nat) : Int) := by omega
  have hfit : Fits f ∧ Fits t := by simp only at f0 f1 t0 t1; exact ⟨⟨by omega, by omega⟩, ⟨by omega, by omega⟩⟩
  clear f0 f1 t0 t1 b1
  have hbel : Below w.heap.size w (w.alloc (.cells #[.int .i64 f, .int .i64 t, .string s] 30)) := (Below.refl _ _).alloc (Nat.le_refl _) _
  have hh : (w.alloc (.cells #[.int .i64 f, .int .i64 t, .string s] 30)).heap[w.heap.size]? = some (.cells #[.int .i64 f, .int .i64 t, .string s] 30 (0, 0)) := heap_alloc_new w _
  have H := Lib.hid (h.below hbel)
  have HB := Lib.hid hbel
  have HH := Lib.hid hh
  have HF := Lib.hid hfit
  have HW := Lib.hid (way_any f t s)
  have HNLT : Hid (∀ b, N b → b < w.heap.size) := h.lt
  clear hbel hh h hfit hfull hL hn
  go_enter Try.func8, Try.ntmps8
  go_wp2_with fail
  generalize w.alloc (.cells #[.int .i64 f, .int .i64 t, .string s] 30) = w1 at *
  have x0 : w1.cell? ⟨w.heap.size, 0, none⟩ = some (.int .i64 f) := by rw [cell_of_row _ _ _ _ _ _ HH.out]; rfl
  have x1 : w1.cell? ⟨w.heap.size, 1, none⟩ = some (.int .i64 t) := by rw [cell_of_row _ _ _ _ _ _ HH.out]; rfl
  have x2 : w1.cell? ⟨w.heap.size, 2, none⟩ = some (.string s) := by rw [cell_of_row _ _ _ _ _ _ HH.out]; rfl
  refine (given_ok H.out.c0 H.out.most1).mono ?_
  rintro e w2 ⟨rfl, rfl⟩
  go_wp2_with fail
  have g0 := H.out.c0
  have g2 := H.out.c2
  have hl := (H.out.mp.look HF.out.1 HF.out.2).1
  have hml := H.out.mp.lt
  have hgl := H.out.glt
  have hxl := cell_lt x0
  unfold pair at hl HW
  go_region_held3 (fun w' => w'.cell? ⟨g, 0, none⟩ = some (.int .i64 (most : Nat)) ∧ w'.cell? ⟨g, 2, none⟩ = some (.map (some m)) ∧ w'.cell? ⟨w.heap.size, 0, none⟩ = some (.int .i64 f) ∧ w'.cell? ⟨w.heap.size, 1, none⟩ = some (.int .i64 t) ∧ w'.cell? ⟨w.heap.size, 2, none⟩ = some (.string s) ∧
      (Instr.lookup 53 (.map (some m)) (.agg #[.int .i64 f, .int .i64 t]) false).run Try.prog w' = .ok (.int .i64 ((ct L f t : Nat) : Int)) w')
    (first | exact ⟨g0, g2, x0, x1, x2, ((H.out.mp.move (w' := w1.drew) rfl).look HF.out.1 HF.out.2).1⟩ | exact ⟨y0, y1, y2, y3, y4, y5⟩ | go_keep)
    (first
      | (go_at_call 18; refine (HW.out _).mono ?_; rintro e w3 ⟨rfl, hb3⟩; have y0 := (hb3.cell (p := ⟨g, 0, none⟩) hgl).trans g0; have y1 := (hb3.cell (p := ⟨g, 2, none⟩) hgl).trans g2; have y2 := (hb3.cell (p := ⟨w.heap.size, 0, none⟩) hxl).trans x0; have y3 := (hb3.cell (p := ⟨w.heap.size, 1, none⟩) hxl).trans x1; have y4 := (hb3.cell (p := ⟨w.heap.size, 2, none⟩) hxl).trans x2; have y5 : (Instr.lookup 53 (.map (some m)) (.agg #[.int .i64 f, .int .i64 t]) false).run Try.prog w3 = .ok (.int .i64 ((ct L f t : Nat) : Int)) w3 := ((H.out.mp.move (hb3.block m hml)).look HF.out.1 HF.out.2).1))
  go_wp2_with fail
  have hb30 := (Below.refl w1.heap.size w1).drew.trans hb3
  have H3 := Lib.hid (H.out.below hb30)
  have HX3 : Hid (w3.heap[w.heap.size]? = some (.cells #[.int .i64 f, .int .i64 t, .string s] 30 (0, 0))) := (hb3.block _ hxl).trans HH.out
  have HB3 := Lib.hid (HB.out.trans (hb30.mono HB.out.size))
  have hxl1 : Hid (w.heap.size < w1.heap.size) := hxl
  clear y5 hl g0 g2 x0 x1 x2 y0 y1 y2 y3 y4 hml hgl hxl hb3 hb30
  have c1 := H3.out.c1
  have y2 : w3.cell? ⟨w.heap.size, 0, none⟩ = some (.int .i64 f) := by rw [cell_of_row _ _ _ _ _ _ HX3.out]; rfl
  have y3 : w3.cell? ⟨w.heap.size, 1, none⟩ = some (.int .i64 t) := by rw [cell_of_row _ _ _ _ _ _ HX3.out]; rfl
  have y4 : w3.cell? ⟨w.heap.size, 2, none⟩ = some (.string s) := by rw [cell_of_row _ _ _ _ _ _ HX3.out]; rfl
  have HNB : Hid (∀ b, V.ownBlock = some b → b ≠ g ∧ b ≠ w.heap.size ∧ b ≠ m) := fun b e => ⟨(H3.out.ne b e).1, fun e2 => H3.out.mines b e (.inl (.inr ⟨by omega, by have := HX3.out; rw [e2]; exact hxl1.out⟩)), (H3.out.ne b e).2.1⟩
  have ag : V.ownBlock ≠ some g := fun e => (HNB.out g e).1 rfl
  have ab : V.ownBlock ≠ some w.heap.size := fun e => (HNB.out _ e).2.1 rfl
  have hgl := H3.out.glt
  have hbl : w.heap.size < w3.heap.size := cell_lt y2
  have zf := H3.out.free 1
  have hown := Lib.hid H3.out.row
  have hbs : g + 1 ≤ w3.heap.size := hgl
  have hl1 : L.length + 1 ≤ maxLen := by have := HLN.out; unfold maxLen; omega
  have hl2 : (L.length + 1) * 32 ≤ 140737488355328 := by have := HLN.out; omega
  go_region_law (refine step_append_lies _ (by rfl) _ _ _ (by rfl) (g + 1) 30 i0 _ 3 32 Try.underlying52 hi0 hz0 hz1 hz2 rfl (by omega) V L.length (lets L) (by rfl) ((hown.out.alloc _).drew) ⟨w3.heap.size, 0, none⟩ 1 1 [.int .i64 f, .int .i64 t, .string s] (by rfl) (by rfl) (World.news_of_block (cs := #[.int .i64 f, .int .i64 t, .string s]) (t := 30) (fr := (0, 0)) (heap_alloc_new w3 _)) (by simp [Value.oneCell']) (by omega) hl1 hl2 (by simp; omega) (w3.heap.size + 1) (by simp) ?_; intro gg cap w5 hown1 hgrow hat hlt; have e5 : w5.heap[g]? = w3.heap[g]? := (hgrow.block g (by simp; omega) (Ne.symm ag)).trans (Below.heap_alloc w3 _ g hgl); have zf5 := (World.frozen?_of_block (a := ⟨g, 1, none⟩) e5).trans zf; have z5 := (World.cell?_of_block (a := ⟨g, 1, none⟩) e5).trans c1)
  all_goals
    have hhalf := half_append H3.out HGD.out (w' := w3.drew.alloc (.cells #[.int .i64 f, .int .i64 t, .string s] 30)) (by simp) (fun b hb => Below.heap_alloc w3 _ b hb) (Kept.of_below (((Below.refl w3.heap.size w3).drew).alloc (Nat.le_refl _) _) H3.out.lt) hgrow hown1 hat
    obtain ⟨hf6, hk6⟩ := hhalf
    have hX6 := (hk6.block w.heap.size (.inl (.inr ⟨Nat.le_refl _, hxl1.out⟩))).trans HX3.out
    have hk6' := (Kept.of_below HB3.out HNLT.out).trans (hk6.less (N' := N) fun z hz => .inl (.inl hz))
    generalize w5.setCell ⟨g, 1, none⟩ (.slice (some ⟨gg, 0, none⟩) (L.length + 1) cap) = w6 at *
    have HF6 := Lib.hid hf6
    have HX6 := Lib.hid hX6
    have HK6 := Lib.hid hk6'
    clear hf6 hX6 hk6 hk6' hown1 hgrow hat hlt c1 y2 y3 y4 ag ab zf hbs hl1 hl2 hown HNB hgl hbl
    have hsum : IntKind.i64.wrap (((ct L f t : Nat) : Int) + 1) = ((ct L f t : Nat) : Int) + 1 := IntWalk.i64_in _ (by have := ct_le L f t; have := HLN.out; omega)
    have hfits : Fits (((ct L f t : Nat) : Int) + 1) := ⟨by omega, by have := ct_le L f t; have := HLN.out; omega⟩
    have hnm : n < maxLen := by have := HNN.out; unfold maxLen; omega
    have g2 := HF6.out.c2
    have x0 : w6.cell? ⟨w.heap.size, 0, none⟩ = some (.int .i64 f) := by rw [cell_of_row _ _ _ _ _ _ HX6.out]; rfl
    have x1 : w6.cell? ⟨w.heap.size, 1, none⟩ = some (.int .i64 t) := by rw [cell_of_row _ _ _ _ _ _ HX6.out]; rfl
    have x2 : w6.cell? ⟨w.heap.size, 2, none⟩ = some (.string s) := by rw [cell_of_row _ _ _ _ _ _ HX6.out]; rfl
    have hml := HF6.out.mp.lt
    have hgl := cell_lt g2
    have hxl := cell_lt x0
    have gm : g ≠ m := by have := HF6.out.mg; omega
    have bm : w.heap.size ≠ m := fun e => HF6.out.minem (.inl (.inr ⟨by omega, by rw [← e]; exact hxl1.out⟩))
    go_wp2_with fail
    go_region_held3 (fun w' => w'.cell? ⟨g, 2, none⟩ = some (.map (some m)) ∧ w'.cell? ⟨w.heap.size, 0, none⟩ = some (.int .i64 f) ∧ w'.cell? ⟨w.heap.size, 1, none⟩ = some (.int .i64 t) ∧ w'.cell? ⟨w.heap.size, 2, none⟩ = some (.string s))
      (first | exact ⟨g2, x0, x1, x2⟩ | exact ⟨y1, y2, y3, y4⟩ | exact ⟨u1, u2, u3, u4⟩ | exact ⟨q1, q2, q3, q4⟩ | go_keep)
      (first
        | (go_at_call 18; refine (HW.out _).mono ?_; rintro e w7 ⟨rfl, hb7⟩; have hm7 := HF6.out.mp.move (hb7.block m hml); have y1 := (hb7.cell (p := ⟨g, 2, none⟩) hgl).trans g2; have y2 := (hb7.cell (p := ⟨w.heap.size, 0, none⟩) hxl).trans x0; have y3 := (hb7.cell (p := ⟨w.heap.size, 1, none⟩) hxl).trans x1; have y4 := (hb7.cell (p := ⟨w.heap.size, 2, none⟩) hxl).trans x2; have y5 : (Instr.lookup 53 (.map (some m)) (.agg #[.int .i64 f, .int .i64 t]) false).run Try.prog w7 = .ok (.int .i64 ((ct L f t : Nat) : Int)) w7 := (hm7.look HF.out.1 HF.out.2).1; obtain ⟨v0, st, w8, hr8, hm8, hg8, hst8⟩ := hm7.entry hnm HF.out.1 HF.out.2; have hr8 : (Instr.mapEntry 53 (.map (some m)) (.agg #[.int .i64 f, .int .i64 t])).run Try.prog w7 = .ok (.tuple #[v0, .int .i64 st]) w8 := hr8; obtain ⟨w9, hr9, hm9, hg9⟩ := hst8 w8 _ rfl hfits; have hr9 : (Instr.entryStore 53 (.map (some m)) (.int .i64 st) (.int .i64 (((ct L f t : Nat) : Int) + 1))).run Try.prog w8 = .ok () w9 := hr9; have u1 := (hg8.cell_far ⟨g, 2, none⟩ (Nat.lt_of_lt_of_le hgl hb7.size) (fun e => gm (Option.some.inj e))).trans y1; have u2 := (hg8.cell_far ⟨w.heap.size, 0, none⟩ (Nat.lt_of_lt_of_le hxl hb7.size) (fun e => bm (Option.some.inj e))).trans y2; have u3 := (hg8.cell_far ⟨w.heap.size, 1, none⟩ (Nat.lt_of_lt_of_le hxl hb7.size) (fun e => bm (Option.some.inj e))).trans y3; have u4 := (hg8.cell_far ⟨w.heap.size, 2, none⟩ (Nat.lt_of_lt_of_le hxl hb7.size) (fun e => bm (Option.some.inj e))).trans y4; have u5 : (Instr.lookup 53 (.map (some m)) (.agg #[.int .i64 f, .int .i64 t]) false).run Try.prog w8 = .ok (.int .i64 ((ct L f t : Nat) : Int)) w8 := (hm8.look HF.out.1 HF.out.2).1; have q1 := (hg9.cell_far ⟨g, 2, none⟩ (Nat.lt_of_lt_of_le hgl (Nat.le_trans hb7.size hg8.size)) (fun e => gm (Option.some.inj e))).trans u1; have q2 := (hg9.cell_far ⟨w.heap.size, 0, none⟩ (Nat.lt_of_lt_of_le hxl (Nat.le_trans hb7.size hg8.size)) (fun e => bm (Option.some.inj e))).trans u2; have q3 := (hg9.cell_far ⟨w.heap.size, 1, none⟩ (Nat.lt_of_lt_of_le hxl (Nat.le_trans hb7.size hg8.size)) (fun e => bm (Option.some.inj e))).trans u3; have q4 := (hg9.cell_far ⟨w.heap.size, 2, none⟩ (Nat.lt_of_lt_of_le hxl (Nat.le_trans hb7.size hg8.size)) (fun e => bm (Option.some.inj e))).trans u4))
    all_goals
      have hs8 := hg8.size
      have hs9 := hg9.size
      have hs7 : w6.heap.size ≤ w7.heap.size := hb7.size
      have hb69 : ∀ b, b < w6.heap.size → b ≠ m → w9.heap[b]? = w6.heap[b]? := fun b hb hne => (hg9.block b (by omega) (fun e => hne (Option.some.inj e))).trans ((hg8.block b (by omega) (fun e => hne (Option.some.inj e))).trans (hb7.block b hb))
      have hm9' : Mp w9 m (n + 1) (fun x y => ((ct (L ++ [(f, t, s)]) x y : Nat) : Int)) := by rw [← ct_append]; exact hm9.mono (Nat.le_refl _)
      have hnx := HF6.out.done (by omega) hb69 hm9'
      have hkk : Kept N w6 w9 := ⟨hg9.os.trans (hg8.os.trans hb7.os), hg9.tape.trans (hg8.tape.trans hb7.tape), hg9.output.trans (hg8.output.trans hb7.output), by omega, fun b hN => hb69 b (HF6.out.lt b (.inl (.inl hN))) (fun e => HF6.out.minem (e ▸ .inl (.inl hN)))⟩
      have hfin : Net w9 g N most (n + 1) (L ++ [(f, t, s)]) := Net.less ⟨_, _, hnx⟩ (fun z hz => .inl (.inl hz))
      have HFIN := Lib.hid hfin
      have HKF := Lib.hid (HK6.out.trans hkk)
      clear hfin hkk hnx hm9' hb69 hs7 hs8 hs9
      go_wp2_with fail
      go_ret
      exact ⟨rfl, HFIN.out, HKF.out⟩

end Go.Proofs.Ytflaghnbbfdamaa
