/-
  The reference's functions Trim, Swap and New.
-/
import Derived.Test.YtgcghdinccdphaaRefC
namespace Go.Proofs.Ytgcghdinccdphaa
open Go.RowKit

set_option maxRecDepth 100000 in
set_option maxHeartbeats 3200000 in
/-- Trim of the reference -/
theorem rtrim_ok {w : World} {N : Nat → Prop} {a b c d r : Nat} {F : Nat → List UInt8} {S : Nat → Nat} (h : Rfd w N a b c d F S) {k : Nat} (hk : k < 256) (n : Nat) (hn : n ≤ (F k).length) :
    Calls Try.prog 24 #[rval r a b c d, .int .i64 k, .int .i64 n] w fun e w' => ∃ v, e = .returned (.tuple #[v, .int .i64 0]) ∧ Rf w' (NN N w w') v r (upd F k ((F k).take n)) (upd S k (min n (S k))) ∧ Below w.heap.size w w' := by
  obtain ⟨m, hm⟩ : ∃ m, m = min n (S k) := ⟨_, rfl⟩
  have hWi : ∀ W, Below w.heap.size w W → Calls Try.prog 30 #[rval r a b c d, .int .i64 k, .string ((txt (F k)).extract 0 n), .int .i64 (m : Nat)] W fun e w' => ∃ v, e = .returned v ∧ Rf w' (fun x => W.heap.size ≤ x) v r (upd F k ((F k).take n)) (upd S k m) ∧ Below W.heap.size W w' := by
    intro W hb
    have := with_any (r := r) (h.below hb) hk ((txt (F k)).extract 0 n) m
    have e : ((txt (F k)).extract 0 n).data.toList = (F k).take n := by simp [txt, ByteArray.data_extract]
    rw [e] at this
    exact this
  have hbox := Rbox.new w r a b c d
  have HF := Lib.hid (file_yes k hk)
  have hT : (txt (F k)).size = (F k).length := txt_size _
  have hmin : (if S k < n then ((S k : Nat) : Int) else (n : Int)) = (m : Nat) := by rw [hm]; split <;> omega
  rw [← hm]
  rw [← hT] at hn
  have HWI := Lib.hid hWi
  have HR := Lib.hid h
  clear hWi h hm hT
  unfold rval at HWI ⊢
  go_enter Try.func24, Try.ntmps24
  go_wp2_with fail
  generalize (w.alloc (.cells #[.int .i64 (r : Nat), .slice (some ⟨a, 0, none⟩) 256 c, .slice (some ⟨b, 0, none⟩) 256 d] 45)).alloc (.cells #[.int .i64 0, .slice none 0 0, .slice none 0 0] 45) = w1 at *
  refine (HF.out _).mono ?_
  rintro e w2 ⟨rfl, rfl⟩
  have HB2 := Lib.hid hbox
  clear hbox
  have z0 := HB2.out.c0
  have z1 := HB2.out.c1
  have z2 := HB2.out.c2
  have za := (HR.out.below HB2.out.bel).all k hk
  have zb := (HR.out.below HB2.out.bel).sure k hk
  obtain ⟨Tk, hTk⟩ : ∃ Tk, Tk = txt (F k) := ⟨_, rfl⟩
  rw [← hTk] at za HWI hn
  obtain ⟨sk, hsk⟩ : ∃ sk, sk = S k := ⟨_, rfl⟩
  rw [← hsk] at zb hmin
  have hlk : w.heap.size + 1 < w1.heap.size := HB2.out.lt
  have k0 : (0 : Int) ≤ (k : Int) := by omega
  have k1 : (k : Int) < 256 := by omega
  have n0 : (0 : Int) ≤ (n : Int) := by omega
  have n1 : (n : Int) ≤ (Tk.size : Int) := by omega
  have hal := HR.out.alt
  have hbl := HR.out.blt
  have hna : ¬ a = w.heap.size + 1 := by omega
  have hnb : ¬ b = w.heap.size + 1 := by omega
  clear hTk hsk
  go_wp2_with fail
  go_region_held3 (fun w' => w'.cell? ⟨w.heap.size, 0, none⟩ = some (.int .i64 (r : Nat)) ∧ w'.cell? ⟨w.heap.size, 1, none⟩ = some (.slice (some ⟨a, 0, none⟩) 256 c) ∧ w'.cell? ⟨w.heap.size, 2, none⟩ = some (.slice (some ⟨b, 0, none⟩) 256 d) ∧ w'.cell? ⟨a, k, none⟩ = some (.string Tk) ∧ w'.cell? ⟨b, k, none⟩ = some (.int .i64 (sk : Nat))) (go_keep)
    ((go_at_call 30; (try rw [hmin]); refine (HWI.out _ (by first | exact HB2.out.bel.drew | exact HB2.out.bel)).mono ?_; rintro e w6 ⟨v, rfl, hrf, hb⟩; obtain ⟨y0, y1, y2, ya, yb, s0, s1, s2, g0, g1, g2⟩ := HB2.out.drew.after za zb hb; obtain ⟨a', b', c', d', rfl, hR'⟩ := hrf; unfold rval; have ya3 := far3 (g := w.heap.size + 1) (u0 := .int .i64 (r : Nat)) (u1 := .slice (some ⟨a', 0, none⟩) 256 c') (u2 := .slice (some ⟨b', 0, none⟩) 256 d') ya hna; have yb3 := far3 (g := w.heap.size + 1) (u0 := .int .i64 (r : Nat)) (u1 := .slice (some ⟨a', 0, none⟩) 256 c') (u2 := .slice (some ⟨b', 0, none⟩) 256 d') yb hnb))
  all_goals
    go_wp2_with fail
    obtain ⟨q1, q2, c0, c1, c2⟩ := Rbox.done (N := N) (r' := r) (HB2.out.drew.below hb) hR' hlk
    refine bodyPost_ret (v := .tuple #[rval r a' b' c' d', .int .i64 0]) ?_ rfl ⟨_, rfl, q1, q2⟩
    unfold stored3 at c0 c1 c2
    unfold rval
    simp [results, Try.results24, go_sem, c0, c1, c2]

set_option maxRecDepth 100000 in
set_option maxHeartbeats 3200000 in
theorem rtrim_no {w : World} {N : Nat → Prop} {a b c d r : Nat} {F : Nat → List UInt8} {S : Nat → Nat} (h : Rfd w N a b c d F S) {k : Nat} (hk : k < 256) (n : Int) (hn : n < 0 ∨ (0 ≤ n ∧ ((F k).length : Int) < n)) :
    Calls Try.prog 24 #[rval r a b c d, .int .i64 k, .int .i64 n] w fun e w' => ∃ v, e = .returned (.tuple #[v, .int .i64 1]) ∧ Rf w' (NN N w w') v r F S ∧ Below w.heap.size w w' := by
  have hbox := Rbox.new w r a b c d
  have HF := Lib.hid (file_yes k hk)
  have hT : (txt (F k)).size = (F k).length := txt_size _
  rw [← hT] at hn
  have HR := Lib.hid h
  clear h hT
  unfold rval
  have za0 := fun W hb => (HR.out.below (w' := W) hb).all k hk
  obtain ⟨Tk, hTk⟩ : ∃ Tk, Tk = txt (F k) := ⟨_, rfl⟩
  rw [← hTk] at hn
  have HZ := Lib.hid za0
  rw [← hTk] at HZ
  clear za0 hTk
  have k0 : (0 : Int) ≤ (k : Int) := by omega
  have k1 : (k : Int) < 256 := by omega
  rcases hn with hn | ⟨hn0, hn⟩
  · go_enter Try.func24, Try.ntmps24
    go_wp2_with fail
    generalize (w.alloc (.cells #[.int .i64 (r : Nat), .slice (some ⟨a, 0, none⟩) 256 c, .slice (some ⟨b, 0, none⟩) 256 d] 45)).alloc (.cells #[.int .i64 0, .slice none 0 0, .slice none 0 0] 45) = w1 at *
    refine (HF.out _).mono ?_
    rintro e w2 ⟨rfl, rfl⟩
    have HB2 := Lib.hid hbox
    clear hbox
    have z0 := HB2.out.c0
    have z1 := HB2.out.c1
    have z2 := HB2.out.c2
    have s0 := HB2.out.r0
    have s1 := HB2.out.r1
    have s2 := HB2.out.r2
    have g0 := HB2.out.rf 0
    have g1 := HB2.out.rf 1
    have g2 := HB2.out.rf 2
    have za := HZ.out w1 HB2.out.bel
    go_wp2_with fail
    obtain ⟨q1, q2, c0, c1, c2⟩ := Rbox.same HB2.out HR.out
    refine bodyPost_ret (v := .tuple #[rval r a b c d, .int .i64 1]) ?_ rfl ⟨_, rfl, q1, q2⟩
    unfold stored3 at c0 c1 c2
    unfold rval
    simp [results, Try.results24, go_sem, c0, c1, c2]
  · have hn1 : ¬ n < 0 := by omega
    go_enter Try.func24, Try.ntmps24
    go_wp2_with fail
    generalize (w.alloc (.cells #[.int .i64 (r : Nat), .slice (some ⟨a, 0, none⟩) 256 c, .slice (some ⟨b, 0, none⟩) 256 d] 45)).alloc (.cells #[.int .i64 0, .slice none 0 0, .slice none 0 0] 45) = w1 at *
    refine (HF.out _).mono ?_
    rintro e w2 ⟨rfl, rfl⟩
    have HB2 := Lib.hid hbox
    clear hbox
    have z0 := HB2.out.c0
    have z1 := HB2.out.c1
    have z2 := HB2.out.c2
    have s0 := HB2.out.r0
    have s1 := HB2.out.r1
    have s2 := HB2.out.r2
    have g0 := HB2.out.rf 0
    have g1 := HB2.out.rf 1
    have g2 := HB2.out.rf 2
    have za := HZ.out w1 HB2.out.bel
    go_wp2_with fail
    obtain ⟨q1, q2, c0, c1, c2⟩ := Rbox.same HB2.out HR.out
    refine bodyPost_ret (v := .tuple #[rval r a b c d, .int .i64 1]) ?_ rfl ⟨_, rfl, q1, q2⟩
    unfold stored3 at c0 c1 c2
    unfold rval
    simp [results, Try.results24, go_sem, c0, c1, c2]

set_option maxRecDepth 100000 in
set_option maxHeartbeats 3200000 in
theorem rtrim_none {w : World} {N : Nat → Prop} {a b c d r : Nat} {F : Nat → List UInt8} {S : Nat → Nat} (h : Rfd w N a b c d F S) {k : Int} (hk : k < 0 ∨ 256 ≤ k) (n : Int) :
    Calls Try.prog 24 #[rval r a b c d, .int .i64 k, .int .i64 n] w fun e w' => ∃ v, e = .returned (.tuple #[v, .int .i64 1]) ∧ Rf w' (NN N w w') v r F S ∧ Below w.heap.size w w' := by
  have hbox := Rbox.new w r a b c d
  have HF := Lib.hid (file_no k hk)
  clear hk
  have HR := Lib.hid h
  clear h
  unfold rval
  go_enter Try.func24, Try.ntmps24
  go_wp2_with fail
  generalize (w.alloc (.cells #[.int .i64 (r : Nat), .slice (some ⟨a, 0, none⟩) 256 c, .slice (some ⟨b, 0, none⟩) 256 d] 45)).alloc (.cells #[.int .i64 0, .slice none 0 0, .slice none 0 0] 45) = w1 at *
  refine (HF.out _).mono ?_
  rintro e w2 ⟨rfl, rfl⟩
  have HB2 := Lib.hid hbox
  clear hbox
  have z0 := HB2.out.c0
  have z1 := HB2.out.c1
  have z2 := HB2.out.c2
  have s0 := HB2.out.r0
  have s1 := HB2.out.r1
  have s2 := HB2.out.r2
  have g0 := HB2.out.rf 0
  have g1 := HB2.out.rf 1
  have g2 := HB2.out.rf 2
  go_wp2_with fail
  obtain ⟨q1, q2, c0, c1, c2⟩ := Rbox.same HB2.out HR.out
  refine bodyPost_ret (v := .tuple #[rval r a b c d, .int .i64 1]) ?_ rfl ⟨_, rfl, q1, q2⟩
  unfold stored3 at c0 c1 c2
  unfold rval
  simp [results, Try.results24, go_sem, c0, c1, c2]

set_option maxRecDepth 100000 in
set_option maxHeartbeats 3200000 in
theorem rswap_none {w : World} {N : Nat → Prop} {a b c d r : Nat} {F : Nat → List UInt8} {S : Nat → Nat} (h : Rfd w N a b c d F S) {x : Int} (hk : x < 0 ∨ 256 ≤ x) (y : Int) :
    Calls Try.prog 26 #[rval r a b c d, .int .i64 x, .int .i64 y] w fun e w' => ∃ v, e = .returned (.tuple #[v, .int .i64 1]) ∧ Rf w' (NN N w w') v r F S ∧ Below w.heap.size w w' := by
  have hbox := Rbox.new w r a b c d
  have HF := Lib.hid (file_no x hk)
  clear hk
  have HR := Lib.hid h
  clear h
  unfold rval
  go_enter Try.func26, Try.ntmps26
  go_wp2_with fail
  generalize (w.alloc (.cells #[.int .i64 (r : Nat), .slice (some ⟨a, 0, none⟩) 256 c, .slice (some ⟨b, 0, none⟩) 256 d] 45)).alloc (.cells #[.int .i64 0, .slice none 0 0, .slice none 0 0] 45) = w1 at *
  refine (HF.out _).mono ?_
  rintro e w2 ⟨rfl, rfl⟩
  have HB2 := Lib.hid hbox
  clear hbox
  have z0 := HB2.out.c0
  have z1 := HB2.out.c1
  have z2 := HB2.out.c2
  have s0 := HB2.out.r0
  have s1 := HB2.out.r1
  have s2 := HB2.out.r2
  have g0 := HB2.out.rf 0
  have g1 := HB2.out.rf 1
  have g2 := HB2.out.rf 2
  go_wp2_with fail
  obtain ⟨q1, q2, c0, c1, c2⟩ := Rbox.same HB2.out HR.out
  refine bodyPost_ret (v := .tuple #[rval r a b c d, .int .i64 1]) ?_ rfl ⟨_, rfl, q1, q2⟩
  unfold stored3 at c0 c1 c2
  unfold rval
  simp [results, Try.results26, go_sem, c0, c1, c2]

set_option maxRecDepth 100000 in
set_option maxHeartbeats 3200000 in
theorem rswap_none2 {w : World} {N : Nat → Prop} {a b c d r : Nat} {F : Nat → List UInt8} {S : Nat → Nat} (h : Rfd w N a b c d F S) {x : Nat} (hx : x < 256) {y : Int} (hk : y < 0 ∨ 256 ≤ y) :
    Calls Try.prog 26 #[rval r a b c d, .int .i64 x, .int .i64 y] w fun e w' => ∃ v, e = .returned (.tuple #[v, .int .i64 1]) ∧ Rf w' (NN N w w') v r F S ∧ Below w.heap.size w w' := by
  have hbox := Rbox.new w r a b c d
  have HX := Lib.hid (file_yes x hx)
  have HF := Lib.hid (file_no y hk)
  clear hk
  have HR := Lib.hid h
  clear h
  unfold rval
  go_enter Try.func26, Try.ntmps26
  go_wp2_with fail
  generalize (w.alloc (.cells #[.int .i64 (r : Nat), .slice (some ⟨a, 0, none⟩) 256 c, .slice (some ⟨b, 0, none⟩) 256 d] 45)).alloc (.cells #[.int .i64 0, .slice none 0 0, .slice none 0 0] 45) = w1 at *
  refine (HX.out _).mono ?_
  rintro e w2 ⟨rfl, rfl⟩
  go_wp2_with fail
  refine (HF.out _).mono ?_
  rintro e w2 ⟨rfl, rfl⟩
  have HB2 := Lib.hid hbox
  clear hbox
  have z0 := HB2.out.c0
  have z1 := HB2.out.c1
  have z2 := HB2.out.c2
  have s0 := HB2.out.r0
  have s1 := HB2.out.r1
  have s2 := HB2.out.r2
  have g0 := HB2.out.rf 0
  have g1 := HB2.out.rf 1
  have g2 := HB2.out.rf 2
  go_wp2_with fail
  obtain ⟨q1, q2, c0, c1, c2⟩ := Rbox.same HB2.out HR.out
  refine bodyPost_ret (v := .tuple #[rval r a b c d, .int .i64 1]) ?_ rfl ⟨_, rfl, q1, q2⟩
  unfold stored3 at c0 c1 c2
  unfold rval
  simp [results, Try.results26, go_sem, c0, c1, c2]
end Go.Proofs.Ytgcghdinccdphaa
