/-
  Twice, and the function that Cut hands on.
-/
import Derived.Test.YtflaghnbbfdamaaNetW
namespace Go.Proofs.Ytflaghnbbfdamaa
open Go.RowKit

/-- all but one block stands -/
def But (m : Nat) (W W' : World) : Prop := Kept (fun b => b < W.heap.size ∧ b ≠ m) W W'
theorem But.trans {m : Nat} {a b c : World} (h : But m a b) (k : But m b c) : But m a c :=
  Kept.trans h (Kept.less k fun _ hx => ⟨Nat.lt_of_lt_of_le hx.1 h.size, hx.2⟩)
theorem But.refl (m : Nat) (a : World) : But m a a := Kept.refl _ _
theorem But.of_below {m : Nat} {a b : World} (h : Below a.heap.size a b) : But m a b := Kept.of_below h fun _ hx => hx.1
theorem But.cell {m : Nat} {a b : World} (h : But m a b) {p : Addr} {v : Value} (hp : p.block ≠ m) (hv : a.cell? p = some v) : b.cell? p = some v :=
  (World.cell?_of_block (a := p) (h.block p.block ⟨cell_lt hv, hp⟩)).trans hv

/-- what the function that Cut makes has caught -/
structure Cu (W : World) (bt bn g m n : Nat) (to : Int) (C : Int → Int → Int) : Prop where
  ct : W.cell? ⟨bt, 0, none⟩ = some (.int .i64 to)
  cn : W.cell? ⟨bn, 0, none⟩ = some (.pointer (some ⟨g, 0, none⟩))
  cg : W.cell? ⟨g, 2, none⟩ = some (.map (some m))
  mp : Mp W m n C
  mt : bt ≠ m
  mn : bn ≠ m
  mg : g ≠ m
theorem Cu.but {W W' : World} {bt bn g m n k : Nat} {to : Int} {C D : Int → Int → Int} (h : Cu W bt bn g m n to C) (hb : But m W W') (hm : Mp W' m k D) : Cu W' bt bn g m k to D :=
  ⟨hb.cell h.mt h.ct, hb.cell h.mn h.cn, hb.cell h.mg h.cg, hm, h.mt, h.mn, h.mg⟩
theorem Cu.below {W W' : World} {bt bn g m n : Nat} {to : Int} {C : Int → Int → Int} (h : Cu W bt bn g m n to C) (hb : Below W.heap.size W W') : Cu W' bt bn g m n to C :=
  h.but (But.of_below hb) (h.mp.move (hb.block m h.mp.lt))
theorem Cu.drew {W : World} {bt bn g m n : Nat} {to : Int} {C : Int → Int → Int} (h : Cu W bt bn g m n to C) : Cu W.drew bt bn g m n to C :=
  ⟨h.ct, h.cn, h.cg, h.mp.move rfl, h.mt, h.mn, h.mg⟩

set_option maxRecDepth 100000 in
set_option maxHeartbeats 3200000 in
/-- a letter to another one -/
theorem hit_no {W : World} {bt bn g m n : Nat} {to : Int} {C : Int → Int → Int} (H : Cu W bt bn g m n to C) (f t : Int) (s : ByteArray) (hne : t ≠ to) :
    Calls Try.prog 27 #[.agg #[.int .i64 f, .int .i64 t, .string s], .pointer (some ⟨bt, 0, none⟩), .pointer (some ⟨bn, 0, none⟩)] W fun e w' =>
      e = .returned (.bool false) ∧ Cu w' bt bn g m n to C ∧ But m W w' := by
  have hb : Below W.heap.size W (W.alloc (.cells #[.int .i64 f, .int .i64 t, .string s] 30)) := (Below.refl _ _).alloc (Nat.le_refl _) _
  have hh : (W.alloc (.cells #[.int .i64 f, .int .i64 t, .string s] 30)).heap[W.heap.size]? = some (.cells #[.int .i64 f, .int .i64 t, .string s] 30 (0, 0)) := heap_alloc_new W _
  have H1 := Lib.hid (H.below hb)
  have HB := Lib.hid hb
  have hd : ((t : Int) == to) = false := beq_eq_false_iff_ne.2 hne
  have x1 : (W.alloc (.cells #[.int .i64 f, .int .i64 t, .string s] 30)).cell? ⟨W.heap.size, 1, none⟩ = some (.int .i64 t) := by rw [cell_of_row _ _ _ _ _ _ hh]; rfl
  have c0 := H1.out.ct
  clear hb hh H
  go_enter Try.func27, Try.ntmps27
  go_wp2_with fail
  go_ret
  exact ⟨by simp, H1.out, But.of_below HB.out⟩

set_option maxRecDepth 100000 in
set_option maxHeartbeats 6400000 in
/-- a letter to the one that is cut off -/
theorem hit_yes {W : World} {bt bn g m n : Nat} {to : Int} {C : Int → Int → Int} (H : Cu W bt bn g m n to C) (f : Int) (s : ByteArray) (hf : Fits f) (ht : Fits to) (hC : -1000000 ≤ C f to ∧ C f to ≤ 1000000) (hn : n ≤ 1000000) :
    Calls Try.prog 27 #[.agg #[.int .i64 f, .int .i64 to, .string s], .pointer (some ⟨bt, 0, none⟩), .pointer (some ⟨bn, 0, none⟩)] W fun e w' =>
      e = .returned (.bool true) ∧ Cu w' bt bn g m (n + 1) to (upd2 C f to (C f to - 1)) ∧ But m W w' := by
  have hb : Below W.heap.size W (W.alloc (.cells #[.int .i64 f, .int .i64 to, .string s] 30)) := (Below.refl _ _).alloc (Nat.le_refl _) _
  have hh : (W.alloc (.cells #[.int .i64 f, .int .i64 to, .string s] 30)).heap[W.heap.size]? = some (.cells #[.int .i64 f, .int .i64 to, .string s] 30 (0, 0)) := heap_alloc_new W _
  have HF4 := Lib.hid (H.below hb)
  have HB := Lib.hid hb
  have hW := Lib.hid (way_any f to s)
  unfold pair at hW
  have x0 : (W.alloc (.cells #[.int .i64 f, .int .i64 to, .string s] 30)).cell? ⟨W.heap.size, 0, none⟩ = some (.int .i64 f) := by rw [cell_of_row _ _ _ _ _ _ hh]; rfl
  have x1 : (W.alloc (.cells #[.int .i64 f, .int .i64 to, .string s] 30)).cell? ⟨W.heap.size, 1, none⟩ = some (.int .i64 to) := by rw [cell_of_row _ _ _ _ _ _ hh]; rfl
  have x2 : (W.alloc (.cells #[.int .i64 f, .int .i64 to, .string s] 30)).cell? ⟨W.heap.size, 2, none⟩ = some (.string s) := by rw [cell_of_row _ _ _ _ _ _ hh]; rfl
  have hml0 := H.mp.lt
  have HFF := Lib.hid hf
  have HFT := Lib.hid ht
  obtain ⟨z, hz⟩ : ∃ z, z = C f to := ⟨_, rfl⟩
  rw [← hz] at hC
  have HZ := Lib.hid hz
  have hsum : IntKind.i64.wrap (z - 1) = z - 1 := IntWalk.i64_in _ (by omega)
  have hfits : Fits (z - 1) := ⟨by omega, by omega⟩
  have hnm : n < maxLen := by unfold maxLen; omega
  have c0 := HF4.out.ct
  have hFits := Lib.hid hfits
  have hNM := Lib.hid hnm
  clear hb hh H hf ht hC hn hz hfits hnm
  go_enter Try.func27, Try.ntmps27
  go_wp2_with fail
  generalize W.alloc (.cells #[.int .i64 f, .int .i64 to, .string s] 30) = w1 at *
  have p0 := HF4.out.cn
  have g2 := HF4.out.cg
  have hml := HF4.out.mp.lt
  have hgl := cell_lt g2
  have hpl := cell_lt p0
  have htl := cell_lt c0
  have hxl := cell_lt x0
  have gm := HF4.out.mg
  have nm := HF4.out.mn
  have tm := HF4.out.mt
  have bm : W.heap.size ≠ m := by omega
  go_region_held3 (fun w' => w'.cell? ⟨bn, 0, none⟩ = some (.pointer (some ⟨g, 0, none⟩)) ∧ w'.cell? ⟨g, 2, none⟩ = some (.map (some m)) ∧ w'.cell? ⟨W.heap.size, 0, none⟩ = some (.int .i64 f) ∧ w'.cell? ⟨W.heap.size, 1, none⟩ = some (.int .i64 to) ∧ w'.cell? ⟨W.heap.size, 2, none⟩ = some (.string s))
    (first | exact ⟨p0, g2, x0, x1, x2⟩ | exact ⟨y0, y1, y2, y3, y4⟩ | exact ⟨u0, u1, u2, u3, u4⟩ | exact ⟨q0, q1, q2, q3, q4⟩ | go_keep)
    (first
      | (go_at_call 18; refine (hW.out _).mono ?_; rintro e w7 ⟨rfl, hb7⟩; have hm7 := HF4.out.mp.move (hb7.block m hml); have y0 := (hb7.cell (p := ⟨bn, 0, none⟩) hpl).trans p0; have y1 := (hb7.cell (p := ⟨g, 2, none⟩) hgl).trans g2; have y2 := (hb7.cell (p := ⟨W.heap.size, 0, none⟩) hxl).trans x0; have y3 := (hb7.cell (p := ⟨W.heap.size, 1, none⟩) hxl).trans x1; have y4 := (hb7.cell (p := ⟨W.heap.size, 2, none⟩) hxl).trans x2; have y5 : (Instr.lookup 53 (.map (some m)) (.agg #[.int .i64 f, .int .i64 to]) false).run Try.prog w7 = .ok (.int .i64 z) w7 := by { rw [HZ.out]; exact (hm7.look HFF.out HFT.out).1 }; obtain ⟨v0, st, w8, hr8, hm8, hg8, hst8⟩ := hm7.entry hNM.out HFF.out HFT.out; have hr8 : (Instr.mapEntry 53 (.map (some m)) (.agg #[.int .i64 f, .int .i64 to])).run Try.prog w7 = .ok (.tuple #[v0, .int .i64 st]) w8 := hr8; obtain ⟨w9, hr9, hm9, hg9⟩ := hst8 w8 _ rfl hFits.out; have hr9 : (Instr.entryStore 53 (.map (some m)) (.int .i64 st) (.int .i64 (z - 1))).run Try.prog w8 = .ok () w9 := hr9; have u0 := (hg8.cell_far ⟨bn, 0, none⟩ (Nat.lt_of_lt_of_le hpl hb7.size) (fun e => nm (Option.some.inj e))).trans y0; have u1 := (hg8.cell_far ⟨g, 2, none⟩ (Nat.lt_of_lt_of_le hgl hb7.size) (fun e => gm (Option.some.inj e))).trans y1; have u2 := (hg8.cell_far ⟨W.heap.size, 0, none⟩ (Nat.lt_of_lt_of_le hxl hb7.size) (fun e => bm (Option.some.inj e))).trans y2; have u3 := (hg8.cell_far ⟨W.heap.size, 1, none⟩ (Nat.lt_of_lt_of_le hxl hb7.size) (fun e => bm (Option.some.inj e))).trans y3; have u4 := (hg8.cell_far ⟨W.heap.size, 2, none⟩ (Nat.lt_of_lt_of_le hxl hb7.size) (fun e => bm (Option.some.inj e))).trans y4; have u5 : (Instr.lookup 53 (.map (some m)) (.agg #[.int .i64 f, .int .i64 to]) false).run Try.prog w8 = .ok (.int .i64 z) w8 := by { rw [HZ.out]; exact (hm8.look HFF.out HFT.out).1 }; have q0 := (hg9.cell_far ⟨bn, 0, none⟩ (Nat.lt_of_lt_of_le hpl (Nat.le_trans hb7.size hg8.size)) (fun e => nm (Option.some.inj e))).trans u0; have q1 := (hg9.cell_far ⟨g, 2, none⟩ (Nat.lt_of_lt_of_le hgl (Nat.le_trans hb7.size hg8.size)) (fun e => gm (Option.some.inj e))).trans u1; have q2 := (hg9.cell_far ⟨W.heap.size, 0, none⟩ (Nat.lt_of_lt_of_le hxl (Nat.le_trans hb7.size hg8.size)) (fun e => bm (Option.some.inj e))).trans u2; have q3 := (hg9.cell_far ⟨W.heap.size, 1, none⟩ (Nat.lt_of_lt_of_le hxl (Nat.le_trans hb7.size hg8.size)) (fun e => bm (Option.some.inj e))).trans u3; have q4 := (hg9.cell_far ⟨W.heap.size, 2, none⟩ (Nat.lt_of_lt_of_le hxl (Nat.le_trans hb7.size hg8.size)) (fun e => bm (Option.some.inj e))).trans u4))
  all_goals
    have hbut : But m w1 w9 := ⟨hg9.os.trans (hg8.os.trans hb7.os), hg9.tape.trans (hg8.tape.trans hb7.tape), hg9.output.trans (hg8.output.trans hb7.output), Nat.le_trans hb7.size (Nat.le_trans hg8.size hg9.size),
      fun b hb => (hg9.block b (Nat.lt_of_lt_of_le hb.1 (Nat.le_trans hb7.size hg8.size)) (fun e => hb.2 (Option.some.inj e))).trans ((hg8.block b (Nat.lt_of_lt_of_le hb.1 hb7.size) (fun e => hb.2 (Option.some.inj e))).trans (hb7.block b hb.1))⟩
    have HC9 := Lib.hid (HF4.out.but hbut hm9)
    have HBT := Lib.hid ((But.of_below HB.out).trans hbut)
    have t9 := HC9.out.ct
    clear hbut hm9
    go_wp2_with fail
    go_ret
    rw [HZ.out] at HC9
    exact ⟨by simp, HC9.out, HBT.out⟩
end Go.Proofs.Ytflaghnbbfdamaa
