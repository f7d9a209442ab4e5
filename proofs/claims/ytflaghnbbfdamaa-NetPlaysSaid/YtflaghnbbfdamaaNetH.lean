/-
  Take, where letters are.
-/
import Derived.Test.YtflaghnbbfdamaaNetE
import Derived.Test.YtflaghnbbfdamaaNetF
import Derived.Test.YtflaghnbbfdamaaNetG
import Derived.IntWalk
namespace Go.Proofs.Ytflaghnbbfdamaa
open Go.RowKit

theorem ct_erase (L : List Lt) (p : Nat) (f t : Int) (s : ByteArray) (h : L[p]? = some (f, t, s)) : upd2 (fun f t => ((ct L f t : Nat) : Int)) f t (((ct L f t : Nat) : Int) - 1) = fun x y => ((ct (L.eraseIdx p) x y : Nat) : Int) := by
  have hL : L = L.take p ++ (f, t, s) :: L.drop (p + 1) := by
    obtain ⟨hp, e⟩ := List.getElem?_eq_some_iff.1 h
    rw [← e, List.getElem_cons_drop, List.take_append_drop]
  have hc : ∀ x y, ct L x y = ct (L.eraseIdx p) x y + (if x = f ∧ y = t then 1 else 0) := by
    intro x y
    rw [List.eraseIdx_eq_take_drop_succ]
    conv => lhs; rw [hL]
    unfold ct
    rw [List.countP_append, List.countP_append, List.countP_cons]
    by_cases e : x = f ∧ y = t
    · obtain ⟨rfl, rfl⟩ := e
      simp
      omega
    · rw [if_neg e]
      have : (decide (f = x) && decide (t = y)) = false := by
        rw [Bool.and_eq_false_iff]
        by_cases e1 : f = x
        · right; simp; rintro rfl; exact e ⟨e1.symm, rfl⟩
        · left; simpa using e1
      simp [this]
  funext x y
  unfold upd2
  by_cases e : x = f ∧ y = t
  · rw [if_pos e]
    obtain ⟨rfl, rfl⟩ := e
    rw [hc x y, if_pos ⟨rfl, rfl⟩]
    omega
  · rw [if_neg e]
    show ((ct L x y : Nat) : Int) = _
    rw [hc x y, if_neg e, Nat.add_zero]

theorem half_delete {w w5 : World} {g m most n gg cap k : Nat} {N : Nat → Prop} {L L' : List Lt} {len : Nat} (h : Nx w g N (.slice (some ⟨gg, 0, none⟩) len cap) m most n L) (hgood : ∀ l ∈ L', Good l)
    (hgrow : w.grownBy w5 (some gg)) (hown : w5.ownsRow (g + 1) 30 3 (.slice (some ⟨gg, 0, none⟩) k cap) k (lets L')) (hk : k = L'.length) :
    Half (w5.setCell ⟨g, 1, none⟩ (.slice (some ⟨gg, 0, none⟩) k cap)) g N (.slice (some ⟨gg, 0, none⟩) k cap) m most n L' (fun f t => ((ct L f t : Nat) : Int)) ∧
      Kept N w (w5.setCell ⟨g, 1, none⟩ (.slice (some ⟨gg, 0, none⟩) k cap)) := by
  have hgl := h.glt
  have hml := h.mp.lt
  have hmg := h.mg
  have hne := h.ne gg rfl
  have hge : w5.heap[g]? = w.heap[g]? := hgrow.block g (by omega) (fun e => hne.1 (Option.some.inj e).symm)
  have hme : w5.heap[m]? = w.heap[m]? := hgrow.block m (by omega) (fun e => hne.2.1 (Option.some.inj e).symm)
  have hc : ∀ o, w5.cell? ⟨g, o, none⟩ = w.cell? ⟨g, o, none⟩ := fun o => World.cell?_of_block (a := ⟨g, o, none⟩) hge
  have hfr : ∀ o, w5.frozen? ⟨g, o, none⟩ = w.frozen? ⟨g, o, none⟩ := fun o => World.frozen?_of_block (a := ⟨g, o, none⟩) hge
  refine ⟨⟨?_, ?_, ?_, ?_, ?_, ?_, hmg, h.mine, h.minem, ?_, ?_, h.most1, h.most2, hgood⟩, ?_⟩
  · rw [World.cell?_setCell_other (h := by simp), hc]; exact h.c0
  · rw [World.cell?_setCell_same (h := (hc _).trans h.c1)]
  · rw [World.cell?_setCell_other (h := by simp), hc]; exact h.c2
  · intro o; rw [World.frozen?_setCell, hfr]; exact h.free o
  · rw [← hk]
    exact ownsRow_setCell_below hown (show g < g + 1 by omega) _
  · exact h.mp.move ((Below.heap_setCell _ _ _ _ (show m ≠ g by omega)).trans hme)
  · intro b e
    exact h.mines b e
  · intro b hN
    have := h.lt b hN
    have := hgrow.size
    simp [World.setCell]
    omega
  · exact ((Kept.refl N w).grown hgrow (fun x e hN => h.mines x e hN) (fun x hN => h.lt x hN)).setCell (p := ⟨g, 1, none⟩) h.mine _

set_option maxRecDepth 100000 in
set_option maxHeartbeats 6400000 in
theorem take_ok {w : World} {g most n : Nat} {N : Nat → Prop} {L : List Lt} (h : Net w g N most n L) (k : Int) (f t : Int) (s : ByteArray) (hL : L.length ≤ 1000000) (hn : n ≤ 1000000) (hget : L[plc k L.length]? = some (f, t, s)) :
    Calls Try.prog 9 #[.pointer (some ⟨g, 0, none⟩), .int .i64 k] w fun e w' => e = .returned (.tuple #[.agg #[.int .i64 f, .int .i64 t, .string s], .bool true]) ∧ Net w' g N most (n + 1) (L.eraseIdx (plc k L.length)) ∧ Kept N w w' := by
  have hne : L ≠ [] := by rintro rfl; simp at hget
  have hb1 : Below w.heap.size w (w.alloc (.cells #[.int .i64 0, .int .i64 0, .string ⟨#[]⟩] 30)) := (Below.refl _ _).alloc (Nat.le_refl _) _
  have hh1 : (w.alloc (.cells #[.int .i64 0, .int .i64 0, .string ⟨#[]⟩] 30)).heap[w.heap.size]? = some (.cells #[.int .i64 0, .int .i64 0, .string ⟨#[]⟩] 30 (0, 0)) := heap_alloc_new w _
  have HNL := Lib.hid h.lt
  have hgood := h.good _ (List.mem_of_getElem? hget)
  have HG := Lib.hid hgood
  have H1 := Lib.hid (h.below hb1)
  have HP := Lib.hid (place_ok H1.out hne hL k)
  have HB1 := Lib.hid hb1
  have HH1 := Lib.hid hh1
  have hp : plc k L.length < L.length := plc_lt k (List.length_pos_iff.2 hne)
  have HGE := Lib.hid hget
  have HLL := Lib.hid hL
  have HN := Lib.hid hn
  have HW := Lib.hid (way_any f t s)
  unfold pair at HW
  clear h hb1 hh1 hgood hget hne hL hn
  generalize plc k L.length = p at *
  go_enter Try.func9, Try.ntmps9
  go_wp2_with fail
  generalize w.alloc (.cells #[.int .i64 0, .int .i64 0, .string ⟨#[]⟩] 30) = w1 at *
  refine HP.out.mono ?_
  rintro e w2 ⟨rfl, rfl⟩
  obtain ⟨V, m, H1⟩ := H1.out
  have H1 := Lib.hid H1
  obtain ⟨gg, cap, rfl, hBg, hcapn, hcapm, hcells⟩ : ∃ gg cap, V = .slice (some ⟨gg, 0, none⟩) L.length cap ∧ (w1.ownsRow (g + 1) 30 3 (.slice (some ⟨gg, 0, none⟩) L.length cap) L.length (lets L)) ∧ L.length ≤ cap ∧ cap ≤ maxLen ∧ (∀ j, j < L.length * 3 → w1.cell? ⟨gg, j, none⟩ = (lets L)[j]?) := by
    have hr := H1.out.row
    rcases hr.2 with ⟨h0, h00⟩ | ⟨gg, cap, cur, hv, hB, hh, hnc, hcm, hsz, htake⟩
    · omega
    · refine ⟨gg, cap, hv, hv ▸ hr, hnc, hcm, fun j hj => ?_⟩
      rw [cell_of_row _ _ _ _ _ _ hh, ← htake, List.getElem?_take, if_pos hj, Array.getElem?_toList]
  obtain ⟨l0, l1, l2⟩ := lets_get L p _ HGE.out
  have y0 : w1.cell? ⟨gg, p * 3, none⟩ = some (.int .i64 f) := (hcells _ (by omega)).trans l0
  have y1 : w1.cell? ⟨gg, p * 3 + 1, none⟩ = some (.int .i64 t) := (hcells _ (by omega)).trans l1
  have y2 : w1.cell? ⟨gg, p * 3 + 2, none⟩ = some (.string s) := (hcells _ (by omega)).trans l2
  have HR := Lib.hid hBg
  clear hBg hcells l0 l1 l2 hcapm
  have c1 := H1.out.c1
  have hpi : (p : Int) < (L.length : Int) := by omega
  have hb2 : Below w1.heap.size w1 (w1.alloc (.cells #[.int .i64 f, .int .i64 t, .string s] 30)) := (Below.refl _ _).alloc (Nat.le_refl _) _
  have hh2 : (w1.alloc (.cells #[.int .i64 f, .int .i64 t, .string s] 30)).heap[w1.heap.size]? = some (.cells #[.int .i64 f, .int .i64 t, .string s] 30 (0, 0)) := heap_alloc_new w1 _
  have c2 : (w1.alloc (.cells #[.int .i64 f, .int .i64 t, .string s] 30)).cell? ⟨g, 1, none⟩ = some (.slice (some ⟨gg, 0, none⟩) L.length cap) := (hb2.cell (p := ⟨g, 1, none⟩) H1.out.glt).trans c1
  have hsum : IntKind.i64.wrap ((p : Int) + 1) = (p : Int) + 1 := IntWalk.i64_in _ (by have := HLL.out; omega)
  have hlt8 : w.heap.size < w1.heap.size := by
    rcases Nat.lt_or_ge w.heap.size w1.heap.size with h | h
    · exact h
    · have := HH1.out
      rw [Array.getElem?_eq_none h] at this
      cases this
  have HB2 := Lib.hid hb2
  have HH2 := Lib.hid hh2
  clear hb2 hh2
  go_wp2_with fail
  generalize w1.alloc (.cells #[.int .i64 f, .int .i64 t, .string s] 30) = w2 at *
  have H2 := Lib.hid (H1.out.below HB2.out)
  have HX2 : Hid (w2.heap[w.heap.size]? = some (.cells #[.int .i64 0, .int .i64 0, .string ⟨#[]⟩] 30 (0, 0))) := (HB2.out.block _ hlt8).trans HH1.out
  have hdel := delete_ok (q := p + 1) H2.out.row hp rfl HLL.out
  rw [show (((p + 1 : Nat) : Nat) : Int) = (p : Int) + 1 by omega] at hdel
  refine hdel.mono ?_
  rintro e w3 ⟨rfl, hr3, hg3⟩
  clear hdel
  have hlt9 : w1.heap.size < w2.heap.size := by
    rcases Nat.lt_or_ge w1.heap.size w2.heap.size with h | h
    · exact h
    · have := HH2.out
      rw [Array.getElem?_eq_none h] at this
      cases this
  have hgg := (H2.out.ne gg rfl).1
  have c3 := (hg3.cell_far ⟨g, 1, none⟩ H2.out.glt (fun e => hgg (Option.some.inj e).symm)).trans H2.out.c1
  have f3 := (hg3.frozen_far ⟨g, 1, none⟩ H2.out.glt (fun e => hgg (Option.some.inj e).symm)).trans (H2.out.free 1)
  obtain ⟨hf4, hk4⟩ := half_delete H2.out (L' := L.eraseIdx p) (fun l hl => H2.out.good l (List.mem_of_mem_eraseIdx hl)) hg3 hr3 (by rw [List.length_eraseIdx_of_lt hp])
  have hX4 := (hk4.block w.heap.size (.inl (.inr ⟨Nat.le_refl _, hlt8⟩))).trans HX2.out
  have hT4 := (hk4.block w1.heap.size (.inr ⟨Nat.le_refl _, hlt9⟩)).trans HH2.out
  have hk4' := ((Kept.of_below HB1.out HNL.out).trans (Kept.of_below HB2.out (fun z hz => Nat.lt_of_lt_of_le (HNL.out z hz) HB1.out.size))).trans (hk4.less (N' := N) fun z hz => .inl (.inl hz))
  have HF4 := Lib.hid hf4
  have HX4 := Lib.hid hX4
  have HT4 := Lib.hid hT4
  have HK4 := Lib.hid hk4'
  have HLT9 := Lib.hid hlt9
  have HLT8 := Lib.hid hlt8
  clear hf4 hX4 hT4 hk4' hk4 hgg hr3 hg3 y0 y1 y2 c1 c2 hlt8 hlt9 hsum
  go_wp2_with fail
  generalize w3.setCell ⟨g, 1, none⟩ (.slice (some ⟨gg, 0, none⟩) (L.length - 1) cap) = w6 at *
  have hfq : Fits f ∧ Fits t := by
    obtain ⟨q0, q1, q2, q3, q4⟩ := HG.out
    simp only at q0 q1 q2 q3
    exact ⟨⟨by omega, by omega⟩, ⟨by omega, by omega⟩⟩
  have HF := Lib.hid hfq
  have hsum : IntKind.i64.wrap (((ct L f t : Nat) : Int) - 1) = ((ct L f t : Nat) : Int) - 1 := IntWalk.i64_in _ (by have := ct_le L f t; have := HLL.out; omega)
  have hfits : Fits (((ct L f t : Nat) : Int) - 1) := ⟨by omega, by have := ct_le L f t; have := HLL.out; omega⟩
  have hnm : n < maxLen := by have := HN.out; unfold maxLen; omega
  have g2 := HF4.out.c2
  have x0 : w6.cell? ⟨w1.heap.size, 0, none⟩ = some (.int .i64 f) := by rw [cell_of_row _ _ _ _ _ _ HT4.out]; rfl
  have x1 : w6.cell? ⟨w1.heap.size, 1, none⟩ = some (.int .i64 t) := by rw [cell_of_row _ _ _ _ _ _ HT4.out]; rfl
  have x2 : w6.cell? ⟨w1.heap.size, 2, none⟩ = some (.string s) := by rw [cell_of_row _ _ _ _ _ _ HT4.out]; rfl
  have hml := HF4.out.mp.lt
  have hgl := cell_lt g2
  have hxl := cell_lt x0
  have gm : g ≠ m := by have := HF4.out.mg; omega
  have bm : w1.heap.size ≠ m := fun e => HF4.out.minem (e ▸ .inr ⟨Nat.le_refl _, HLT9.out⟩)
  have bm2 : w.heap.size ≠ m := fun e => HF4.out.minem (e ▸ .inl (.inr ⟨Nat.le_refl _, HLT8.out⟩))
  clear hfq
  go_region_held3 (fun w' => w'.cell? ⟨g, 2, none⟩ = some (.map (some m)) ∧ w'.cell? ⟨w1.heap.size, 0, none⟩ = some (.int .i64 f) ∧ w'.cell? ⟨w1.heap.size, 1, none⟩ = some (.int .i64 t) ∧ w'.cell? ⟨w1.heap.size, 2, none⟩ = some (.string s))
    (first | exact ⟨g2, x0, x1, x2⟩ | exact ⟨y1, y2, y3, y4⟩ | exact ⟨u1, u2, u3, u4⟩ | exact ⟨q1, q2, q3, q4⟩ | go_keep)
    (first
      | (go_at_call 18; refine (HW.out _).mono ?_; rintro e w7 ⟨rfl, hb7⟩; have hm7 := HF4.out.mp.move (hb7.block m hml); have y1 := (hb7.cell (p := ⟨g, 2, none⟩) hgl).trans g2; have y2 := (hb7.cell (p := ⟨w1.heap.size, 0, none⟩) hxl).trans x0; have y3 := (hb7.cell (p := ⟨w1.heap.size, 1, none⟩) hxl).trans x1; have y4 := (hb7.cell (p := ⟨w1.heap.size, 2, none⟩) hxl).trans x2; have y5 : (Instr.lookup 53 (.map (some m)) (.agg #[.int .i64 f, .int .i64 t]) false).run Try.prog w7 = .ok (.int .i64 ((ct L f t : Nat) : Int)) w7 := (hm7.look HF.out.1 HF.out.2).1; obtain ⟨v0, st, w8, hr8, hm8, hg8, hst8⟩ := hm7.entry hnm HF.out.1 HF.out.2; have hr8 : (Instr.mapEntry 53 (.map (some m)) (.agg #[.int .i64 f, .int .i64 t])).run Try.prog w7 = .ok (.tuple #[v0, .int .i64 st]) w8 := hr8; obtain ⟨w9, hr9, hm9, hg9⟩ := hst8 w8 _ rfl hfits; have hr9 : (Instr.entryStore 53 (.map (some m)) (.int .i64 st) (.int .i64 (((ct L f t : Nat) : Int) - 1))).run Try.prog w8 = .ok () w9 := hr9; have u1 := (hg8.cell_far ⟨g, 2, none⟩ (Nat.lt_of_lt_of_le hgl hb7.size) (fun e => gm (Option.some.inj e))).trans y1; have u2 := (hg8.cell_far ⟨w1.heap.size, 0, none⟩ (Nat.lt_of_lt_of_le hxl hb7.size) (fun e => bm (Option.some.inj e))).trans y2; have u3 := (hg8.cell_far ⟨w1.heap.size, 1, none⟩ (Nat.lt_of_lt_of_le hxl hb7.size) (fun e => bm (Option.some.inj e))).trans y3; have u4 := (hg8.cell_far ⟨w1.heap.size, 2, none⟩ (Nat.lt_of_lt_of_le hxl hb7.size) (fun e => bm (Option.some.inj e))).trans y4; have u5 : (Instr.lookup 53 (.map (some m)) (.agg #[.int .i64 f, .int .i64 t]) false).run Try.prog w8 = .ok (.int .i64 ((ct L f t : Nat) : Int)) w8 := (hm8.look HF.out.1 HF.out.2).1; have q1 := (hg9.cell_far ⟨g, 2, none⟩ (Nat.lt_of_lt_of_le hgl (Nat.le_trans hb7.size hg8.size)) (fun e => gm (Option.some.inj e))).trans u1; have q2 := (hg9.cell_far ⟨w1.heap.size, 0, none⟩ (Nat.lt_of_lt_of_le hxl (Nat.le_trans hb7.size hg8.size)) (fun e => bm (Option.some.inj e))).trans u2; have q3 := (hg9.cell_far ⟨w1.heap.size, 1, none⟩ (Nat.lt_of_lt_of_le hxl (Nat.le_trans hb7.size hg8.size)) (fun e => bm (Option.some.inj e))).trans u3; have q4 := (hg9.cell_far ⟨w1.heap.size, 2, none⟩ (Nat.lt_of_lt_of_le hxl (Nat.le_trans hb7.size hg8.size)) (fun e => bm (Option.some.inj e))).trans u4))
  all_goals
    have hs8 := hg8.size
    have hs9 := hg9.size
    have hs7 : w6.heap.size ≤ w7.heap.size := hb7.size
    have hb69 : ∀ b, b < w6.heap.size → b ≠ m → w9.heap[b]? = w6.heap[b]? := fun b hb hne => (hg9.block b (by omega) (fun e => hne (Option.some.inj e))).trans ((hg8.block b (by omega) (fun e => hne (Option.some.inj e))).trans (hb7.block b hb))
    have hm9' : Mp w9 m (n + 1) (fun x y => ((ct (L.eraseIdx p) x y : Nat) : Int)) := by rw [← ct_erase L p f t s HGE.out]; exact hm9.mono (Nat.le_refl _)
    have hnx := HF4.out.done (by omega) hb69 hm9'
    have hkk : Kept N w6 w9 := ⟨hg9.os.trans (hg8.os.trans hb7.os), hg9.tape.trans (hg8.tape.trans hb7.tape), hg9.output.trans (hg8.output.trans hb7.output), by omega, fun b hN => hb69 b (HF4.out.lt b (.inl (.inl hN))) (fun e => HF4.out.minem (e ▸ .inl (.inl hN)))⟩
    have hNB : ¬ N w.heap.size := fun e => Nat.lt_irrefl _ (HNL.out _ e)
    have hX9 : w9.heap[w.heap.size]? = some (.cells #[.int .i64 0, .int .i64 0, .string ⟨#[]⟩] 30 (0, 0)) := (hb69 _ (cell_lt (p := ⟨w.heap.size, 0, none⟩) (by rw [cell_of_row _ _ _ _ _ _ HX4.out]; rfl)) bm2).trans HX4.out
    have HNX := Lib.hid hnx
    have HKK := Lib.hid (HK4.out.trans hkk)
    have HX9 := Lib.hid hX9
    clear hnx hkk hm9' hb69 hs7 hs8 hs9 hX9
    have b0 : w9.cell? ⟨w.heap.size, 0, none⟩ = some (.int .i64 0) := by rw [cell_of_row _ _ _ _ _ _ HX9.out]; rfl
    have b1 : w9.cell? ⟨w.heap.size, 1, none⟩ = some (.int .i64 0) := by rw [cell_of_row _ _ _ _ _ _ HX9.out]; rfl
    have b2 : w9.cell? ⟨w.heap.size, 2, none⟩ = some (.string ⟨#[]⟩) := by rw [cell_of_row _ _ _ _ _ _ HX9.out]; rfl
    have v0 := frozen_of_row _ _ 0 _ _ HX9.out
    have v1 := frozen_of_row _ _ 1 _ _ HX9.out
    have v2 := frozen_of_row _ _ 2 _ _ HX9.out
    go_wp2_with fail
    have h3 := heap_setCell_same _ _ 2 _ _ (.string s) (heap_setCell_same _ _ 1 _ _ (.int .i64 t) (heap_setCell_same _ _ 0 _ _ (.int .i64 f) HX9.out))
    have d0 := cell_of_row _ _ 0 _ _ _ h3
    have d1 := cell_of_row _ _ 1 _ _ _ h3
    have d2 := cell_of_row _ _ 2 _ _ _ h3
    have hnet : Net w9 g (NN (NN N w w1) w1 w2) most (n + 1) (L.eraseIdx p) := ⟨_, _, HNX.out⟩
    have hBN : NN (NN N w w1) w1 w2 w.heap.size := .inl (.inr ⟨Nat.le_refl _, HLT8.out⟩)
    refine bodyPost_ret (v := .tuple #[.agg #[.int .i64 f, .int .i64 t, .string s], .bool true]) (by simp [results, Try.results9, go_sem, d0, d1, d2]) rfl ⟨rfl, ?_, ?_⟩
    · exact (((hnet.store (p := ⟨w.heap.size, 0, none⟩) hBN _).store (p := ⟨w.heap.size, 1, none⟩) hBN _).store (p := ⟨w.heap.size, 2, none⟩) hBN _).less (fun z hz => .inl (.inl hz))
    · exact ((HKK.out.setCell (p := ⟨w.heap.size, 0, none⟩) hNB _).setCell (p := ⟨w.heap.size, 1, none⟩) hNB _).setCell (p := ⟨w.heap.size, 2, none⟩) hNB _
end Go.Proofs.Ytflaghnbbfdamaa
