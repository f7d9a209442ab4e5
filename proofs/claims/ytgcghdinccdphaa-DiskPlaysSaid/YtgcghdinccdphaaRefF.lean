/-
  The reference's function Sync.
-/
import Derived.Test.YtgcghdinccdphaaRefE
namespace Go.Proofs.Ytgcghdinccdphaa
open Go.RowKit

theorem synced_same (F : Nat → List UInt8) (S : Nat → Nat) (n : Nat) (h : S n = (F n).length) : synced F S (n + 1) = synced F S n := by
  rw [← synced_succ]
  have := upd_self (synced F S n) n
  have e : synced F S n n = (F n).length := by unfold synced; rw [if_neg (Nat.lt_irrefl n)]; exact h
  rw [e] at this
  exact this
/-- the disk's variable holds another disk -/
theorem Rbox.turn {w wx : World} {r a b c d a' b' c' d' : Nat} (h : Rbox w wx r a b c d) : Rbox w (stored3 wx w.heap.size r a' b' c' d') r a' b' c' d' := by
  refine ⟨((h.bel.setCell (Nat.le_refl _) _).setCell (Nat.le_refl _) _).setCell (Nat.le_refl _) _, heap_of_cells (heap_of_cells (heap_of_cells h.b4 0 _) 1 _) 2 _, ?_⟩
  unfold stored3
  rw [Below.heap_setCell _ _ _ _ (by show w.heap.size + 1 ≠ w.heap.size; omega), Below.heap_setCell _ _ _ _ (by show w.heap.size + 1 ≠ w.heap.size; omega), Below.heap_setCell _ _ _ _ (by show w.heap.size + 1 ≠ w.heap.size; omega)]
  exact h.b6
theorem Rfd.stored {wx : World} {N : Nat → Prop} {g r a b c d a' b' c' d' : Nat} {F : Nat → List UInt8} {S : Nat → Nat} (h : Rfd wx N a b c d F S) (ha : a ≠ g) (hb : b ≠ g) : Rfd (stored3 wx g r a' b' c' d') N a b c d F S := by
  refine h.move ?_ ?_
  · unfold stored3
    rw [Below.heap_setCell _ _ _ _ ha, Below.heap_setCell _ _ _ _ ha, Below.heap_setCell _ _ _ _ ha]
  · unfold stored3
    rw [Below.heap_setCell _ _ _ _ hb, Below.heap_setCell _ _ _ _ hb, Below.heap_setCell _ _ _ _ hb]
theorem Rfd.drewN {w : World} {N : Nat → Prop} {a b c d : Nat} {F : Nat → List UInt8} {S : Nat → Nat} (h : Rfd w N a b c d F S) (n : Nat) : Rfd (w.drewN n) N a b c d F S := h.move rfl rfl
theorem Rbox.drewN {w wx : World} {r a b c d : Nat} (h : Rbox w wx r a b c d) (n : Nat) : Rbox w (wx.drewN n) r a b c d := ⟨⟨h.bel.os, h.bel.tape, h.bel.output, h.bel.size, h.bel.block⟩, h.b4, h.b6⟩
/-- not the variable, nor the result -/
def ON (N : Nat → Prop) (w : World) : Nat → Prop := fun x => (N x ∧ x < w.heap.size) ∨ w.heap.size + 2 ≤ x
theorem ON.ne {N : Nat → Prop} {w : World} {x : Nat} (h : ON N w x) : x ≠ w.heap.size ∧ x ≠ w.heap.size + 1 := by
  rcases h with ⟨_, h⟩ | h <;> omega

theorem Rbox.done2 {w wx : World} {r a b c d a' b' c' d' : Nat} {N : Nat → Prop} {F : Nat → List UInt8} {S : Nat → Nat} (h : Rbox w wx r a b c d) (hR : Rfd wx (ON N w) a' b' c' d' F S) :
    Rf (stored3 wx (w.heap.size + 1) r a' b' c' d') (NN N w (stored3 wx (w.heap.size + 1) r a' b' c' d')) (rval r a' b' c' d') r F S ∧ Below w.heap.size w (stored3 wx (w.heap.size + 1) r a' b' c' d') ∧
      (stored3 wx (w.heap.size + 1) r a' b' c' d').cell? ⟨w.heap.size + 1, 0, none⟩ = some (.int .i64 (r : Nat)) ∧ (stored3 wx (w.heap.size + 1) r a' b' c' d').cell? ⟨w.heap.size + 1, 1, none⟩ = some (.slice (some ⟨a', 0, none⟩) 256 c') ∧
      (stored3 wx (w.heap.size + 1) r a' b' c' d').cell? ⟨w.heap.size + 1, 2, none⟩ = some (.slice (some ⟨b', 0, none⟩) 256 d') := by
  obtain ⟨q1, q2, q3⟩ := h.result (r' := r) hR hR.na.ne.2 hR.nb.ne.2
  obtain ⟨c0, c1, c2⟩ := cells3_of q3
  have hx : ∀ x, ON N w x → x < (stored3 wx (w.heap.size + 1) r a' b' c' d').heap.size → NN N w (stored3 wx (w.heap.size + 1) r a' b' c' d') x := by
    intro x hx hl
    rcases hx with ⟨hx, _⟩ | hx
    · exact .inl hx
    · exact .inr ⟨by omega, hl⟩
  exact ⟨⟨a', b', c', d', rfl, ⟨hx a' q1.na q1.alt, hx b' q1.nb q1.blt, q1.all, q1.sure, q1.c1, q1.c2, q1.d1, q1.d2⟩⟩, q2, c0, c1, c2⟩

set_option maxRecDepth 100000 in
set_option maxHeartbeats 3200000 in
theorem rsync_any {w : World} {N : Nat → Prop} {a b c d r : Nat} {F : Nat → List UInt8} {S : Nat → Nat} (h : Rfd w N a b c d F S) (hS : ∀ k, k < 256 → S k ≤ (F k).length) :
    Calls Try.prog 25 #[rval r a b c d] w fun e w' => ∃ v, e = .returned v ∧ Rf w' (NN N w w') v r F (synced F S 256) ∧ Below w.heap.size w w' := by
  have hbox := Rbox.new w r a b c d
  have hst : Rfd ((w.alloc (.cells #[.int .i64 (r : Nat), .slice (some ⟨a, 0, none⟩) 256 c, .slice (some ⟨b, 0, none⟩) 256 d] 45)).alloc (.cells #[.int .i64 0, .slice none 0 0, .slice none 0 0] 45)) (ON N w) a b c d F (synced F S 0) := by
    have e : synced F S 0 = S := by funext i; simp [synced]
    rw [e]
    have h2 := h.below hbox.bel
    exact ⟨.inl ⟨h.na, h.alt⟩, .inl ⟨h.nb, h.blt⟩, h2.all, h2.sure, h2.c1, h2.c2, h2.d1, h2.d2⟩
  have HST := Lib.hid hst
  have HBX := Lib.hid hbox
  have HS := Lib.hid hS
  clear h hst hbox hS
  unfold rval
  go_enter Try.func25, Try.ntmps25
  go_wp2_with fail
  generalize (w.alloc (.cells #[.int .i64 (r : Nat), .slice (some ⟨a, 0, none⟩) 256 c, .slice (some ⟨b, 0, none⟩) 256 d] 45)).alloc (.cells #[.int .i64 0, .slice none 0 0, .slice none 0 0] 45) = w1 at *
  go_loopw [3] (fun v wr => ∃ (i a b c d : Nat), i ≤ 256 ∧ v = .int .i64 i ∧ Hid (Rbox w wr r a b c d) ∧ Hid (Rfd wr (ON N w) a b c d F (synced F S i))) (fun v _ => 256 - (intOf v).toNat)
  case atStart => exact ⟨0, a, b, c, d, by omega, rfl, HBX.out, HST.out⟩
  case round =>
    clear HST HBX
    obtain ⟨i, a, b, c, d, hi, rfl, HB, HR⟩ := hrel
    have z0 := HB.out.c0
    have z1 := HB.out.c1
    have z2 := HB.out.c2
    by_cases hlt : i < 256
    · have i0 : (0 : Int) ≤ (i : Int) := by omega
      have i1 : (i : Int) < 256 := by omega
      have xa := HR.out.all i hlt
      have xb := HR.out.sure i hlt
      have hsy : synced F S i i = S i := by unfold synced; rw [if_neg (Nat.lt_irrefl i)]
      rw [hsy] at xb
      have hT : (txt (F i)).size = (F i).length := txt_size _
      have hle := HS.out i hlt
      rw [← hT] at hle
      by_cases hdone : S i = (txt (F i)).size
      · have HE := Lib.hid (synced_same F S i (hdone.trans hT))
        have hd : decide (S i < (txt (F i)).size) = false := by simp; omega
        clear hsy hT hle hdone
        generalize txt (F i) = Ti at *
        generalize S i = si at *
        go_wp2_with fail
        go_quiet (fail)
        go_wp2_with fail
        go_roundw
        case rel => exact ⟨i + 1, a, b, c, d, by omega, i64_eq (by omega), HB.out.drewN _, by rw [HE.out]; exact HR.out.drewN _⟩
        case measure => simp [intOf]; omega
      · have hd : decide (S i < (txt (F i)).size) = true := by simp; omega
        have hWi : ∀ W, Rfd W (ON N w) a b c d F (synced F S i) → Calls Try.prog 30 #[rval r a b c d, .int .i64 i, .string (txt (F i)), .int .i64 ((txt (F i)).size : Nat)] W fun e w' => ∃ v, e = .returned v ∧ Rf w' (fun x => W.heap.size ≤ x) v r F (synced F S (i + 1)) ∧ Below W.heap.size W w' := by
          intro W hR
          have := with_any (r := r) hR hlt (txt (F i)) (txt (F i)).size
          rw [txt_data, upd_self, hT, synced_succ] at this
          rw [hT]
          exact this
        have HWI := Lib.hid hWi
        unfold rval at HWI
        clear hsy hT hle hdone hWi
        obtain ⟨Ti, hTi⟩ : ∃ Ti, Ti = txt (F i) := ⟨_, rfl⟩
        rw [← hTi] at HWI hd xa
        have HTI := Lib.hid hTi
        clear hTi
        generalize S i = si at *
        go_wp2_with fail
        go_quiet (fail)
        have HBq := Lib.hid (HB.out.drewN nq)
        have HRq := Lib.hid (HR.out.drewN nq)
        clear z0 z1 z2 xa xb
        have xa : (wr.drewN nq).cell? ⟨a, i, none⟩ = some (.string Ti) := (HRq.out.all i hlt).trans (by rw [HTI.out])
        generalize wr.drewN nq = w2 at *
        have z0 := HBq.out.c0
        have z1 := HBq.out.c1
        have z2 := HBq.out.c2
        go_wp2_with fail
        go_still_tail 13, (by kernel_rfl)
        have HBd := Lib.hid HBq.out.drew
        have HRd := Lib.hid (HRq.out.drewN 1)
        have e1 : w2.drewN 1 = w2.drew := rfl
        rw [e1] at HRd
        clear z0 z1 z2 xa HBq HRq e1
        change wpList _ _ _ _ _ w2.drew
        generalize w2.drew = w3 at *
        go_wp2_with fail
        refine (HWI.out _ HRd.out).mono ?_
        rintro e w4 ⟨v, rfl, hrf, hb4⟩
        obtain ⟨a', b', c', d', rfl, hR'⟩ := hrf
        unfold rval
        have HB4 := Lib.hid (HBd.out.below hb4)
        have hl3 := HBd.out.lt
        have ha' : w3.heap.size ≤ a' := hR'.na
        have hb' : w3.heap.size ≤ b' := hR'.nb
        have HR4 := Lib.hid (hR'.stored (g := w.heap.size) (r := r) (a' := a') (b' := b') (c' := c') (d' := d') (by omega) (by omega))
        clear hR' hb4
        have z0 := HB4.out.c0
        have z1 := HB4.out.c1
        have z2 := HB4.out.c2
        have g0 : w4.frozen? ⟨w.heap.size, 0, none⟩ = false := frozen_of_row _ _ _ _ _ HB4.out.b4
        have g1 : w4.frozen? ⟨w.heap.size, 1, none⟩ = false := frozen_of_row _ _ _ _ _ HB4.out.b4
        have g2 : w4.frozen? ⟨w.heap.size, 2, none⟩ = false := frozen_of_row _ _ _ _ _ HB4.out.b4
        go_wp2_with fail
        go_roundw
        case rel => exact ⟨i + 1, a', b', c', d', by omega, i64_eq (by omega), HB4.out.turn, HR4.out.more (fun x hx => .inr (by have : w3.heap.size ≤ x := hx; omega))⟩
        case measure => simp [intOf]; omega
    · obtain rfl : i = 256 := by omega
      have s0 := HB.out.r0
      have s1 := HB.out.r1
      have s2 := HB.out.r2
      have g0 := HB.out.rf 0
      have g1 := HB.out.rf 1
      have g2 := HB.out.rf 2
      go_wp2_with fail
      obtain ⟨q1, q2, c0, c1, c2⟩ := Rbox.done2 HB.out HR.out
      refine bodyPost_ret (v := rval r a b c d) ?_ rfl ⟨_, rfl, q1, q2⟩
      unfold stored3 at c0 c1 c2
      unfold rval
      simp [results, Try.results25, go_sem, c0, c1, c2]
end Go.Proofs.Ytgcghdinccdphaa
