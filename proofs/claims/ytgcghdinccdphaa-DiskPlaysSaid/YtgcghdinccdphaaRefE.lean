/-
  The reference's functions Swap and New.
-/
import Derived.Test.YtgcghdinccdphaaRefD
import Derived.Laws.MakeOwn
namespace Go.Proofs.Ytgcghdinccdphaa
open Go.RowKit

set_option maxRecDepth 100000 in
set_option maxHeartbeats 3200000 in
theorem rswap_loose {w : World} {N : Nat → Prop} {a b c d r : Nat} {F : Nat → List UInt8} {S : Nat → Nat} (h : Rfd w N a b c d F S) {x y : Nat} (hx : x < 256) (hy : y < 256) (hl : S x < (F x).length ∨ (S x = (F x).length ∧ S y < (F y).length)) :
    Calls Try.prog 26 #[rval r a b c d, .int .i64 x, .int .i64 y] w fun e w' => ∃ v, e = .returned (.tuple #[v, .int .i64 31]) ∧ Rf w' (NN N w w') v r F S ∧ Below w.heap.size w w' := by
  have hbox := Rbox.new w r a b c d
  have HX := Lib.hid (file_yes x hx)
  have HY := Lib.hid (file_yes y hy)
  have hTx : (txt (F x)).size = (F x).length := txt_size _
  have hTy : (txt (F y)).size = (F y).length := txt_size _
  rw [← hTx, ← hTy] at hl
  have hl2 : (decide (S x < (txt (F x)).size) = true) ∨ (decide (S x < (txt (F x)).size) = false ∧ decide (S y < (txt (F y)).size) = true) := by
    rcases hl with hl | ⟨h1, h2⟩
    · left; simpa using hl
    · right; exact ⟨by simp; omega, by simpa using h2⟩
  have HR := Lib.hid h
  clear h hl hTx hTy
  unfold rval
  have x0 : (0 : Int) ≤ (x : Int) := by omega
  have x1 : (x : Int) < 256 := by omega
  have y0 : (0 : Int) ≤ (y : Int) := by omega
  have y1 : (y : Int) < 256 := by omega
  have hcx := HR.out
  rcases hl2 with h1 | ⟨h1, h2⟩
  all_goals
    go_enter Try.func26, Try.ntmps26
    go_wp2_with fail
    generalize (w.alloc (.cells #[.int .i64 (r : Nat), .slice (some ⟨a, 0, none⟩) 256 c, .slice (some ⟨b, 0, none⟩) 256 d] 45)).alloc (.cells #[.int .i64 0, .slice none 0 0, .slice none 0 0] 45) = w1 at *
    refine (HX.out _).mono ?_
    rintro e w2 ⟨rfl, rfl⟩
    go_wp2_with fail
    refine (HY.out _).mono ?_
    rintro e w2 ⟨rfl, rfl⟩
    have HB2 := Lib.hid hbox
    have z1 := HB2.out.c1
    have z2 := HB2.out.c2
    have ax := (HR.out.below HB2.out.bel).all x hx
    have ay := (HR.out.below HB2.out.bel).all y hy
    have bx := (HR.out.below HB2.out.bel).sure x hx
    have bY := (HR.out.below HB2.out.bel).sure y hy
    clear hbox hcx
    generalize txt (F x) = Tx at *
    generalize txt (F y) = Ty at *
    generalize S x = sx at *
    generalize S y = sy at *
    go_wp2_with fail
    go_quiet (fail)
    have HB3 : Hid (Rbox w (w1.drewN nq) r a b c d) := HB2.out.below ⟨rfl, rfl, rfl, Nat.le_refl _, fun _ _ => rfl⟩
    clear z1 z2 ax ay bx bY
    generalize w1.drewN nq = w3 at *
    have z0 := HB3.out.c0
    have z1 := HB3.out.c1
    have z2 := HB3.out.c2
    have s0 := HB3.out.r0
    have s1 := HB3.out.r1
    have s2 := HB3.out.r2
    have g0 := HB3.out.rf 0
    have g1 := HB3.out.rf 1
    have g2 := HB3.out.rf 2
    go_wp2_with fail
    obtain ⟨q1, q2, c0, c1, c2⟩ := Rbox.same HB3.out HR.out
    refine bodyPost_ret (v := .tuple #[rval r a b c d, .int .i64 31]) ?_ rfl ⟨_, rfl, q1, q2⟩
    unfold stored3 at c0 c1 c2
    unfold rval
    simp [results, Try.results26, go_sem, c0, c1, c2]

set_option maxRecDepth 100000 in
set_option maxHeartbeats 3200000 in
theorem rswap_ok {w : World} {N : Nat → Prop} {a b c d r : Nat} {F : Nat → List UInt8} {S : Nat → Nat} (h : Rfd w N a b c d F S) {x y : Nat} (hx : x < 256) (hy : y < 256) (sx : S x = (F x).length) (sy : S y = (F y).length) :
    Calls Try.prog 26 #[rval r a b c d, .int .i64 x, .int .i64 y] w fun e w' => ∃ v, e = .returned (.tuple #[v, .int .i64 0]) ∧ Rf w' (NN N w w') v r (fun i => F (sw x y i)) (fun i => S (sw x y i)) ∧ Below w.heap.size w w' := by
  have hbox := Rbox.new w r a b c d
  have HX := Lib.hid (file_yes x hx)
  have HY := Lib.hid (file_yes y hy)
  have hTx : (txt (F x)).size = (F x).length := txt_size _
  have hTy : (txt (F y)).size = (F y).length := txt_size _
  have hWi : ∀ W, Below w.heap.size w W → Calls Try.prog 30 #[rval r a b c d, .int .i64 x, .string (txt (F y)), .int .i64 ((txt (F y)).size : Nat)] W fun e w' => ∃ v, e = .returned v ∧ Rf w' (fun x => W.heap.size ≤ x) v r (upd F x (F y)) (upd S x (S y)) ∧ Below W.heap.size W w' := by
    intro W hb
    have := with_any (r := r) (h.below hb) hx (txt (F y)) (txt (F y)).size
    rw [txt_data, hTy, ← sy] at this
    rw [hTy, ← sy]
    exact this
  have hWj : ∀ W M a' b' c' d', Rfd W M a' b' c' d' (upd F x (F y)) (upd S x (S y)) → Calls Try.prog 30 #[rval r a' b' c' d', .int .i64 y, .string (txt (F x)), .int .i64 ((txt (F x)).size : Nat)] W fun e w' => ∃ v, e = .returned v ∧ Rf w' (fun x => W.heap.size ≤ x) v r (fun i => F (sw x y i)) (fun i => S (sw x y i)) ∧ Below W.heap.size W w' := by
    intro W M a' b' c' d' hh
    have := with_any (r := r) hh hy (txt (F x)) (txt (F x)).size
    rw [txt_data, hTx, ← sx, ← sw_upd F x y, ← sw_upd S x y] at this
    rw [hTx, ← sx]
    exact this
  rw [← hTx] at sx
  rw [← hTy] at sy
  have HR := Lib.hid h
  have HWI := Lib.hid hWi
  have HWJ := Lib.hid hWj
  clear h hTx hTy hWi hWj
  unfold rval at HWI HWJ ⊢
  have x0 : (0 : Int) ≤ (x : Int) := by omega
  have x1 : (x : Int) < 256 := by omega
  have y0 : (0 : Int) ≤ (y : Int) := by omega
  have y1 : (y : Int) < 256 := by omega
  have h1 : decide (S x < (txt (F x)).size) = false := by simp; omega
  have h2 : decide (S y < (txt (F y)).size) = false := by simp; omega
  have SX := Lib.hid sx
  have SY := Lib.hid sy
  clear sx sy
  go_enter Try.func26, Try.ntmps26
  go_wp2_with fail
  generalize (w.alloc (.cells #[.int .i64 (r : Nat), .slice (some ⟨a, 0, none⟩) 256 c, .slice (some ⟨b, 0, none⟩) 256 d] 45)).alloc (.cells #[.int .i64 0, .slice none 0 0, .slice none 0 0] 45) = w1 at *
  refine (HX.out _).mono ?_
  rintro e w2 ⟨rfl, rfl⟩
  go_wp2_with fail
  refine (HY.out _).mono ?_
  rintro e w2 ⟨rfl, rfl⟩
  have HB2 := Lib.hid hbox
  have z1 := HB2.out.c1
  have z2 := HB2.out.c2
  have ax := (HR.out.below HB2.out.bel).all x hx
  have ay := (HR.out.below HB2.out.bel).all y hy
  have bx := (HR.out.below HB2.out.bel).sure x hx
  have bY := (HR.out.below HB2.out.bel).sure y hy
  clear hbox
  generalize txt (F x) = Tx at *
  generalize txt (F y) = Ty at *
  go_wp2_with fail
  go_quiet (fail)
  have HBq : Hid (Rbox w (w1.drewN nq) r a b c d) := HB2.out.below ⟨rfl, rfl, rfl, Nat.le_refl _, fun _ _ => rfl⟩
  have z1' : (w1.drewN nq).cell? ⟨w.heap.size, 1, none⟩ = some (.slice (some ⟨a, 0, none⟩) 256 c) := z1
  have ax' : (w1.drewN nq).cell? ⟨a, x, none⟩ = some (.string Tx) := ax
  have ay' : (w1.drewN nq).cell? ⟨a, y, none⟩ = some (.string Ty) := ay
  clear z1 z2 ax ay bx bY HB2
  generalize w1.drewN nq = w2 at *
  go_wp2_with fail
  go_quiet (fail)
  have HB4 : Hid (Rbox w (w2.drewN nq) r a b c d) := HBq.out.below ⟨rfl, rfl, rfl, Nat.le_refl _, fun _ _ => rfl⟩
  clear z1' ax' ay' HBq
  generalize w2.drewN nq = w3 at *
  have z0 := HB4.out.c0
  have z1 := HB4.out.c1
  have z2 := HB4.out.c2
  go_wp2_with fail
  refine (HWI.out _ HB4.out.bel).mono ?_
  rintro e w4 ⟨v, rfl, hrf, hb4⟩
  obtain ⟨a', b', c', d', rfl, hR'⟩ := hrf
  unfold rval
  have HR4 := Lib.hid hR'
  have HB5 := Lib.hid (HB4.out.below hb4)
  clear hR' hb4
  go_wp2_with fail
  refine (HWJ.out _ _ _ _ _ _ HR4.out).mono ?_
  rintro e w5 ⟨v, rfl, hrf, hb5⟩
  obtain ⟨a2, b2, c2, d2, rfl, hR2⟩ := hrf
  unfold rval
  have HR5 := Lib.hid hR2
  have HB6 := Lib.hid (HB5.out.below hb5)
  have hlt5 : w.heap.size + 1 < w4.heap.size := HB5.out.lt
  clear hR2 hb5 z0 z1 z2
  have s0 := HB6.out.r0
  have s1 := HB6.out.r1
  have s2 := HB6.out.r2
  have g0 := HB6.out.rf 0
  have g1 := HB6.out.rf 1
  have g2 := HB6.out.rf 2
  go_wp2_with fail
  obtain ⟨q1, q2, e0, e1, e2⟩ := Rbox.done (N := N) (r' := r) HB6.out HR5.out hlt5
  refine bodyPost_ret (v := .tuple #[rval r a2 b2 c2 d2, .int .i64 0]) ?_ rfl ⟨_, rfl, q1, q2⟩
  unfold stored3 at e0 e1 e2
  unfold rval
  simp [results, Try.results26, go_sem, e0, e1, e2]

/-- what make lays -/
def madeRow (z : Value) : Array Value := madeCells #[z] (256 * 1)
theorem madeRow_get (z : Value) (j : Nat) (hj : j < 256) : (madeRow z)[j]? = some z := by
  unfold madeRow madeCells
  simp [hj, Nat.mod_one]
theorem make_strs (W : World) : (Instr.makeSlice 22 (.int .i64 256) (.int .i64 256)).run Try.prog W = .ok (.slice (some ⟨W.heap.size, 0, none⟩) 256 256) (W.alloc (.cells (madeRow (.string ⟨#[]⟩)) 9)) := by
  obtain ⟨i0, hi, hz0, hz1, hz2⟩ := info_parts info9
  have := run_make (P := Try.prog) W 22 9 i0 (.string ByteArray.empty) Try.underlying22 hi hz0 .i64 .i64 256 256 (by omega) (by omega) (by rw [hz2]; omega) (by omega)
  rw [hz1] at this
  exact this
theorem make_ints (W : World) : (Instr.makeSlice 28 (.int .i64 256) (.int .i64 256)).run Try.prog W = .ok (.slice (some ⟨W.heap.size, 0, none⟩) 256 256) (W.alloc (.cells (madeRow (.int .i64 0)) 3)) := by
  obtain ⟨i0, hi, hz0, hz1, hz2⟩ := info_parts info3
  have := run_make (P := Try.prog) W 28 3 i0 (.int .i64 0) Try.underlying28 hi hz0 .i64 .i64 256 256 (by omega) (by omega) (by rw [hz2]; omega) (by omega)
  rw [hz1] at this
  exact this

theorem alloc3 (w : World) (A B C : Obj) : (((w.alloc A).alloc B).alloc C).heap[w.heap.size]? = some A ∧ (((w.alloc A).alloc B).alloc C).heap[w.heap.size + 1]? = some B ∧ (((w.alloc A).alloc B).alloc C).heap[w.heap.size + 1 + 1]? = some C := by
  refine ⟨?_, ?_, ?_⟩
  · rw [Below.heap_alloc _ _ _ (by simp; omega), Below.heap_alloc _ _ _ (by simp)]
    exact heap_alloc_new w _
  · rw [Below.heap_alloc _ _ _ (by simp)]
    exact heap_alloc2_new w _ _
  · have := heap_alloc_new ((w.alloc A).alloc B) C
    simpa using this

set_option maxRecDepth 100000 in
set_option maxHeartbeats 3200000 in
theorem rnew_ok (r : Nat) (h0 : 1 ≤ r) (h1 : r ≤ 16777216) (w : World) :
    Calls Try.prog 17 #[.int .i64 r] w fun e w' => ∃ v, e = .returned (.tuple #[v, .int .i64 0]) ∧ Rf w' (fun x => w.heap.size ≤ x) v r (fun _ => []) (fun _ => 0) ∧ Below w.heap.size w w' := by
  have hm1 := make_strs
  have hm2 := make_ints
  go_enter Try.func17, Try.ntmps17
  go_wp2_with fail
  go_region
  · obtain ⟨hA, hB, hC⟩ := alloc3 w (.cells #[.int .i64 (r : Nat), .slice (some ⟨w.heap.size + 1, 0, none⟩) 256 256, .slice (some ⟨w.heap.size + 1 + 1, 0, none⟩) 256 256] 45) (.cells (madeRow (.string ⟨#[]⟩)) 9) (.cells (madeRow (.int .i64 0)) 3)
    obtain ⟨c0, c1, c2⟩ := cells3_of hA
    go_wp2_with fail
    refine bodyPost_ret (v := .tuple #[rval r (w.heap.size + 1) (w.heap.size + 1 + 1) 256 256, .int .i64 0]) (by unfold rval; simp [results, Try.results17, go_sem, c0, c1, c2]) rfl ⟨_, rfl, ⟨_, _, _, _, rfl, ⟨?_, ?_, fun k hk => ?_, fun k hk => ?_, by omega, by omega, by omega, by omega⟩⟩, ?_⟩
    · show w.heap.size ≤ w.heap.size + 1; omega
    · show w.heap.size ≤ w.heap.size + 1 + 1; omega
    · exact (cell_of_row _ _ _ _ _ _ hB).trans (madeRow_get _ _ hk)
    · exact (cell_of_row _ _ _ _ _ _ hC).trans (madeRow_get _ _ hk)
    · exact ((((Below.refl _ _).alloc (Nat.le_refl _) _).alloc (by simp) _).alloc (by simp; omega) _).drew
  · obtain ⟨hA, hB, hC⟩ := alloc3 w (.cells #[.int .i64 (r : Nat), .slice (some ⟨w.heap.size + 1 + 1, 0, none⟩) 256 256, .slice (some ⟨w.heap.size + 1, 0, none⟩) 256 256] 45) (.cells (madeRow (.int .i64 0)) 3) (.cells (madeRow (.string ⟨#[]⟩)) 9)
    obtain ⟨c0, c1, c2⟩ := cells3_of hA
    go_wp2_with fail
    refine bodyPost_ret (v := .tuple #[rval r (w.heap.size + 1 + 1) (w.heap.size + 1) 256 256, .int .i64 0]) (by unfold rval; simp [results, Try.results17, go_sem, c0, c1, c2]) rfl ⟨_, rfl, ⟨_, _, _, _, rfl, ⟨?_, ?_, fun k hk => ?_, fun k hk => ?_, by omega, by omega, by omega, by omega⟩⟩, ?_⟩
    · show w.heap.size ≤ w.heap.size + 1 + 1; omega
    · show w.heap.size ≤ w.heap.size + 1; omega
    · exact (cell_of_row _ _ _ _ _ _ hC).trans (madeRow_get _ _ hk)
    · exact (cell_of_row _ _ _ _ _ _ hB).trans (madeRow_get _ _ hk)
    · exact ((((Below.refl _ _).alloc (Nat.le_refl _) _).alloc (by simp) _).alloc (by simp; omega) _).drew
set_option maxRecDepth 100000 in
theorem rnew_no (r : Int) (h0 : r < 1 ∨ 16777216 < r) (w : World) :
    Calls Try.prog 17 #[.int .i64 r] w fun e w' => e = .returned (.tuple #[.agg #[.int .i64 0, .slice none 0 0, .slice none 0 0], .int .i64 1]) ∧ Below w.heap.size w w' := by
  obtain ⟨c0, c1, c2⟩ := box3 w (.int .i64 0) (.slice none 0 0) (.slice none 0 0) 45
  rcases h0 with h0 | h0
  · go_enter Try.func17, Try.ntmps17
    go_wp2_with fail
    refine bodyPost_ret (v := .tuple #[.agg #[.int .i64 0, .slice none 0 0, .slice none 0 0], .int .i64 1]) (by simp [results, Try.results17, go_sem]) rfl ⟨rfl, (Below.refl _ _).alloc (Nat.le_refl _) _⟩
  · have h1 : ¬ r < 1 := by omega
    go_enter Try.func17, Try.ntmps17
    go_wp2_with fail
    refine bodyPost_ret (v := .tuple #[.agg #[.int .i64 0, .slice none 0 0, .slice none 0 0], .int .i64 1]) (by simp [results, Try.results17, go_sem]) rfl ⟨rfl, (Below.refl _ _).alloc (Nat.le_refl _) _⟩
end Go.Proofs.Ytgcghdinccdphaa
