/-
  Twice and Cut.
-/
import Derived.Test.YtflaghnbbfdamaaNetN
namespace Go.Proofs.Ytflaghnbbfdamaa
open Go.RowKit

theorem twice_none {w : World} {g most n : Nat} {N : Nat → Prop} (h : Net w g N most n []) (k : Int) : Calls Try.prog 15 #[.pointer (some ⟨g, 0, none⟩), .int .i64 k] w fun e w' => e = .returned (.bool false) ∧ w = w' := by
  have HP := Lib.hid (place_none h k)
  clear h
  go_enter Try.func15, Try.ntmps15
  go_wp2_with fail
  refine HP.out.mono ?_
  rintro e w2 ⟨rfl, rfl⟩
  go_wp2_with fail
  go_ret
  exact ⟨rfl, rfl⟩
set_option maxRecDepth 100000 in
set_option maxHeartbeats 3200000 in
/-- Twice, by what Put says -/
theorem twice_by {w : World} {g most n : Nat} {N : Nat → Prop} {L : List Lt} (h : Net w g N most n L) (hne : L ≠ []) (hL : L.length ≤ 1000000) (k : Int) {f t : Int} {s : ByteArray} (hget : L[plc k L.length]? = some (f, t, s)) {code : Int} {R : World → Prop}
    (hput : Calls Try.prog 8 #[.pointer (some ⟨g, 0, none⟩), .agg #[.int .i64 f, .int .i64 t, .string s]] w fun e w' => e = .returned (.int .i64 code) ∧ R w') :
    Calls Try.prog 15 #[.pointer (some ⟨g, 0, none⟩), .int .i64 k] w fun e w' => e = .returned (.bool (code == 0)) ∧ R w' := by
  have HP := Lib.hid (place_ok h hne hL k)
  have hp : plc k L.length < L.length := plc_lt k (List.length_pos_iff.2 hne)
  have HPUT := Lib.hid hput
  obtain ⟨V, m, H1⟩ := h
  have H1 := Lib.hid H1
  clear hput hne hL
  generalize plc k L.length = p at *
  obtain ⟨gg, cap, rfl, hr⟩ : ∃ gg cap, V = .slice (some ⟨gg, 0, none⟩) L.length cap ∧ w.ownsRow (g + 1) 30 3 (.slice (some ⟨gg, 0, none⟩) L.length cap) L.length (lets L) := by
    have hr := H1.out.row
    rcases hr.2 with ⟨h0, h00⟩ | ⟨gg, cap, cur, hv, _⟩
    · omega
    · exact ⟨gg, cap, hv, hv ▸ hr⟩
  obtain ⟨y0, y1, y2⟩ := row_cells hr rfl hget
  have c1 := H1.out.c1
  have hpi : (p : Int) < (L.length : Int) := by omega
  have hp0 : (0 : Int) ≤ (p : Int) := by omega
  clear hget hr
  go_enter Try.func15, Try.ntmps15
  go_wp2_with fail
  refine HP.out.mono ?_
  rintro e w2 ⟨rfl, rfl⟩
  go_wp2_with fail
  refine HPUT.out.mono ?_
  rintro e w3 ⟨rfl, hR⟩
  go_wp2_with fail
  go_ret
  exact ⟨rfl, hR⟩

set_option maxHeartbeats 1600000 in
theorem index_nil (fn : Value) (W : World) : Calls Try.prog 29 #[.slice none 0 0, fn] W fun e w' => e = .returned (.int .i64 (-1)) ∧ W = w' := by
  go_enter Try.func29, Try.ntmps29
  go_wp2_with fail
  go_loopw [8] (fun v wr => v = .int .i64 0 ∧ W = wr) (fun _ _ => 0)
  case atStart => exact ⟨rfl, rfl⟩
  case round =>
    obtain ⟨rfl, rfl⟩ := hrel
    go_wp2_with fail
    go_ret
    exact ⟨rfl, rfl⟩
theorem delfunc_nil (fn : Value) (W : World) : Calls Try.prog 26 #[.slice none 0 0, fn] W fun e w' => e = .returned (.slice none 0 0) ∧ W = w' := by
  have HI := Lib.hid (index_nil fn W)
  go_enter Try.func26, Try.ntmps26
  go_wp2_with fail
  refine HI.out.mono ?_
  rintro e w1 ⟨rfl, rfl⟩
  go_wp2_with fail
  go_ret
  exact ⟨rfl, rfl⟩
theorem ret_i64 {a b : Int} (h : a = b) : Ending.returned (.int .i64 a) = .returned (.int .i64 b) := by rw [h]
theorem nx_same {w : World} {g m most n : Nat} {N : Nat → Prop} {V : Value} {L : List Lt} (h : Nx w g N V m most n L) : Nx (w.setCell ⟨g, 1, none⟩ V) g N V m most n L ∧ Kept N w (w.setCell ⟨g, 1, none⟩ V) := by
  have hmg := h.mg
  refine ⟨⟨?_, ?_, ?_, ?_, ?_, ?_, hmg, h.mine, h.minem, h.mines, ?_, h.most1, h.most2, h.good⟩, (Kept.refl N w).setCell (p := ⟨g, 1, none⟩) h.mine _⟩
  · rw [World.cell?_setCell_other (h := by simp)]; exact h.c0
  · rw [World.cell?_setCell_same (h := h.c1)]
  · rw [World.cell?_setCell_other (h := by simp)]; exact h.c2
  · intro o; rw [World.frozen?_setCell]; exact h.free o
  · exact ownsRow_setCell_below h.row (show g < g + 1 by omega) _
  · exact h.mp.move (Below.heap_setCell _ _ _ _ (show m ≠ g by omega))
  · intro b hN
    have := h.lt b hN
    simp [World.setCell]
    omega
theorem cut_end {w w5 : World} {g m most n k gg cap n' q : Nat} {N : Nat → Prop} {L L' : List Lt} (h : Nx w g N (.slice (some ⟨gg, 0, none⟩) q cap) m most n L) (hgood : ∀ l ∈ L', Good l) (hk : k = L'.length)
    (hb : But2 m gg w w5) (hown : w5.ownsRow (g + 1) 30 3 (.slice (some ⟨gg, 0, none⟩) k cap) k (lets L')) (hm : Mp w5 m n' (ctf L')) :
    Nx (w5.setCell ⟨g, 1, none⟩ (.slice (some ⟨gg, 0, none⟩) k cap)) g N (.slice (some ⟨gg, 0, none⟩) k cap) m most n' L' ∧ Kept N w (w5.setCell ⟨g, 1, none⟩ (.slice (some ⟨gg, 0, none⟩) k cap)) := by
  have hgl := h.glt
  have hmg := h.mg
  have hne := h.ne gg rfl
  have hge : w5.heap[g]? = w.heap[g]? := hb.block g ⟨hgl, by omega, by omega⟩
  have hc : ∀ o, w5.cell? ⟨g, o, none⟩ = w.cell? ⟨g, o, none⟩ := fun o => World.cell?_of_block (a := ⟨g, o, none⟩) hge
  have hfr : ∀ o, w5.frozen? ⟨g, o, none⟩ = w.frozen? ⟨g, o, none⟩ := fun o => World.frozen?_of_block (a := ⟨g, o, none⟩) hge
  have hkn : Kept N w w5 := ⟨hb.os, hb.tape, hb.output, hb.size, fun b hN => hb.block b ⟨h.lt b hN, fun e => h.minem (e ▸ hN), fun e => h.mines gg rfl (e ▸ hN)⟩⟩
  refine ⟨⟨?_, ?_, ?_, ?_, ?_, ?_, hmg, h.mine, h.minem, ?_, ?_, h.most1, h.most2, hgood⟩, hkn.setCell (p := ⟨g, 1, none⟩) h.mine _⟩
  · rw [World.cell?_setCell_other (h := by simp), hc]; exact h.c0
  · rw [World.cell?_setCell_same (h := (hc _).trans h.c1)]
  · rw [World.cell?_setCell_other (h := by simp), hc]; exact h.c2
  · intro o; rw [World.frozen?_setCell, hfr]; exact h.free o
  · rw [← hk]; exact ownsRow_setCell_below hown (show g < g + 1 by omega) _
  · exact hm.move (Below.heap_setCell _ _ _ _ (show m ≠ g by omega))
  · intro b e; exact h.mines b e
  · intro b hN
    have := h.lt b hN
    have := hb.size
    simp [World.setCell]
    omega

set_option maxRecDepth 100000 in
set_option maxHeartbeats 6400000 in
theorem cut_ok {w : World} {g most n : Nat} {N : Nat → Prop} {L : List Lt} (h : Net w g N most n L) (to : Int) (hL : L.length ≤ 100000) (hn : n ≤ 800000) :
    Calls Try.prog 16 #[.pointer (some ⟨g, 0, none⟩), .int .i64 to] w fun e w' => e = .returned (.int .i64 ((L.length - (L.filter (kp to)).length : Nat))) ∧ Net w' g N most (n + L.length) (L.filter (kp to)) ∧ Kept N w w' := by
  have hb2 : Below w.heap.size w ((w.alloc (.cells #[.pointer (some ⟨g, 0, none⟩)] 23)).alloc (.cells #[.int .i64 to] 3)) := ((Below.refl _ _).alloc (Nat.le_refl _) _).alloc (by simp) _
  have hh1 : ((w.alloc (.cells #[.pointer (some ⟨g, 0, none⟩)] 23)).alloc (.cells #[.int .i64 to] 3)).heap[w.heap.size]? = some (.cells #[.pointer (some ⟨g, 0, none⟩)] 23 (0, 0)) := by
    rw [Below.heap_alloc _ _ _ (by simp)]; exact heap_alloc_new w _
  have hh2 : ((w.alloc (.cells #[.pointer (some ⟨g, 0, none⟩)] 23)).alloc (.cells #[.int .i64 to] 3)).heap[w.heap.size + 1]? = some (.cells #[.int .i64 to] 3 (0, 0)) := heap_alloc2_new w _ _
  obtain ⟨V, m, h⟩ := h
  have HLT := Lib.hid h.lt
  have hml := h.mp.lt
  have hgl := h.glt
  have h1 := h.below hb2
  have HB := Lib.hid hb2
  have x0 : ((w.alloc (.cells #[.pointer (some ⟨g, 0, none⟩)] 23)).alloc (.cells #[.int .i64 to] 3)).cell? ⟨w.heap.size, 0, none⟩ = some (.pointer (some ⟨g, 0, none⟩)) := by rw [cell_of_row _ _ _ _ _ _ hh1]; rfl
  have x1 : ((w.alloc (.cells #[.pointer (some ⟨g, 0, none⟩)] 23)).alloc (.cells #[.int .i64 to] 3)).cell? ⟨w.heap.size + 1, 0, none⟩ = some (.int .i64 to) := by rw [cell_of_row _ _ _ _ _ _ hh2]; rfl
  have HH1 := Lib.hid hh1
  have HH2 := Lib.hid hh2
  have HL := Lib.hid hL
  have HN := Lib.hid hn
  have H1 := Lib.hid h1
  have HGV := Lib.hid (given_ok h1.c0 h1.most1)
  have hVlt : Hid (∀ b, V.ownBlock = some b → b < w.heap.size) := fun b e => (h.ne b e).2.2
  have hmf : ∀ (fn : Fn) (first cap : Array Value) (w : World), (Instr.makeFunc fn first cap).run Try.prog w = .ok (.func fn first cap) w := fun _ _ _ _ => rfl
  clear hb2 hh1 hh2 h h1 hL hn
  go_enter Try.func16, Try.ntmps16
  go_wp2_with fail
  generalize (w.alloc (.cells #[.pointer (some ⟨g, 0, none⟩)] 23)).alloc (.cells #[.int .i64 to] 3) = w1 at *
  refine HGV.out.mono ?_
  rintro e w2 ⟨rfl, rfl⟩
  obtain ⟨a, c, rfl, hlc, hcm, hcase⟩ := H1.out.slice
  have c1 := H1.out.c1
  have f1 := H1.out.free 1
  clear HGV
  rcases hcase with ⟨rfl, rfl, hl0⟩ | ⟨gg, rfl⟩
  · have hLn : L = [] := List.length_eq_zero_iff.1 hl0
    subst hLn
    have HDN := Lib.hid (fun fn => delfunc_nil fn)
    have hN1 : Hid (Net w1 g (NN N w w1) most n []) := ⟨_, m, H1.out⟩
    have hre := nx_same H1.out
    have HRE : Hid (Net (w1.setCell ⟨g, 1, none⟩ (.slice none 0 0)) g (NN N w w1) most n []) := ⟨_, m, hre.1⟩
    have HRK : Hid (Kept (NN N w w1) w1 (w1.setCell ⟨g, 1, none⟩ (.slice none 0 0))) := hre.2
    have hbg : w.heap.size ≠ g := by omega
    clear hre
    go_wp2_with fail
    go_region_with (go_at_call 26; refine (HDN.out _ _).mono ?_; rintro e w5 ⟨rfl, rfl⟩)
    all_goals
      have n0 : (w1.setCell ⟨g, 1, none⟩ (.slice none 0 0)).cell? ⟨w.heap.size, 0, none⟩ = some (.pointer (some ⟨g, 0, none⟩)) := by rw [World.cell?_setCell_other (h := by simp <;> omega)]; exact x0
      have n1 : (w1.setCell ⟨g, 1, none⟩ (.slice none 0 0)).cell? ⟨g, 1, none⟩ = some (.slice none 0 0) := by rw [World.cell?_setCell_same (h := c1)]
      go_wp2_with fail
      go_ret
      exact ⟨by simp, Net.less HRE.out.drew (fun z hz => .inl hz), (Kept.of_below HB.out HLT.out).trans (HRK.out.drew.less fun z hz => .inl hz)⟩
  · have gm : g ≠ m := by have := H1.out.mg; omega
    have ggm := (H1.out.ne gg rfl).2.1
    have ggg := (H1.out.ne gg rfl).1
    have ggl := hVlt.out gg rfl
    have hcu : Cu w1 (w.heap.size + 1) w.heap.size g m n to (ctf L) := ⟨x1, x0, H1.out.c2, H1.out.mp, by omega, by omega, gm⟩
    have HDF := Lib.hid (delfunc_ok (W := w1.drew) (L := L) hcu.drew H1.out.row ggm (by omega) (by omega) (by omega) HL.out HN.out H1.out.good)
    have HQ : Hid (∀ l ∈ L.filter (kp to), Good l) := fun l hl => H1.out.good l (List.mem_filter.1 hl).1
    have hql : (L.filter (kp to)).length ≤ L.length := List.length_filter_le _ _
    clear hcu
    go_wp2_with fail
    go_region_with (go_at_call 26; refine HDF.out.mono ?_; rintro e w5 ⟨k, hk, rfl, hr5, hc5, hb5⟩; have hkk := Lib.hid hk; clear hk; have n0 := hc5.cn; have n1 := (World.cell?_of_block (a := ⟨g, 1, none⟩) (hb5.block g ⟨cell_lt c1, gm, Ne.symm ggg⟩)).trans c1; have n2 := (World.frozen?_of_block (a := ⟨g, 1, none⟩) (hb5.block g ⟨cell_lt c1, gm, Ne.symm ggg⟩)).trans f1)
    all_goals
      have hb6 : But2 m gg w1 w5 := ⟨hb5.os, hb5.tape, hb5.output, hb5.size, hb5.block⟩
      have hce := cut_end H1.out HQ.out hkk.out hb6 hr5 hc5.mp
      have HCE := Lib.hid hce
      have m0 : (w5.setCell ⟨g, 1, none⟩ (.slice (some ⟨gg, 0, none⟩) k c)).cell? ⟨w.heap.size, 0, none⟩ = some (.pointer (some ⟨g, 0, none⟩)) := by rw [World.cell?_setCell_other (h := by simp <;> omega)]; exact n0
      have m1 := hce.1.c1
      have hkl : k ≤ L.length := by rw [hkk.out]; exact hql
      have hll := HL.out
      clear hce n0 n1 n2 c1 f1 x0 x1 hc5 hb5 hb6 hr5 HDF
      generalize w5.setCell ⟨g, 1, none⟩ (.slice (some ⟨gg, 0, none⟩) k c) = w6 at *
      go_wp2_with fail
      go_ret
      refine ⟨?_, Net.less ⟨_, m, HCE.out.1⟩ (fun z hz => .inl hz), (Kept.of_below HB.out HLT.out).trans (HCE.out.2.less fun z hz => .inl hz)⟩
      rw [← hkk.out]
      exact ret_i64 (by omega)
end Go.Proofs.Ytflaghnbbfdamaa
