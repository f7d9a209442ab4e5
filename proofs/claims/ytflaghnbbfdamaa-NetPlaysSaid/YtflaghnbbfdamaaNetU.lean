/-
  The document's function Cut.
-/
import Derived.Test.YtflaghnbbfdamaaNetT
namespace Go.Proofs.Ytflaghnbbfdamaa
open Go.RowKit

structure Cs (w wr : World) (N : Nat → Prop) (most : Nat) (a : Option Addr) (c : Nat) (L : List Lt) (dt : Int) (j m : Nat) (v : Value) : Prop where
  box : Wb w wr most (.slice a L.length c)
  rd : Rd wr N a c L
  m_ : m = ((L.take j).filter (kp dt)).length
  own : wr.ownsRow (w.heap.size + 2) 65 3 v m (lets ((L.take j).filter (kp dt)))
theorem filter_le (dt : Int) (L : List Lt) (j : Nat) : ((L.take j).filter (kp dt)).length ≤ j := by
  have h1 := List.length_filter_le (kp dt) (L.take j)
  rw [List.length_take] at h1
  omega

set_option maxRecDepth 100000 in
set_option maxHeartbeats 6400000 in
theorem rcut_ok {w : World} {N : Nat → Prop} {a : Option Addr} {c most : Nat} {L : List Lt} (h : Rd w N a c L) (hN : ∀ z, N z → z < w.heap.size) (dt : Int) (hL : L.length ≤ 1000000) :
    Calls Try.prog 24 #[qv most a L.length c, .int .i64 dt] w (BPost w N most (L.filter (kp dt)) (.int .i64 ((L.length - (L.filter (kp dt)).length : Nat)))) := by
  have hbox := Wb.new w most (.slice a L.length c)
  have hcs : Cs w ((w.alloc (.cells #[.int .i64 (most : Nat), .slice a L.length c] 44)).alloc (.cells #[.int .i64 0, .slice none 0 0] 44)) N most a c L dt 0 0 (.slice none 0 0) :=
    ⟨hbox, h.below hbox.bel, rfl, own_nil _ _ _ _⟩
  have HS := Lib.hid hcs
  have HR := Lib.hid h
  have HN := Lib.hid hN
  obtain ⟨i0, hi0, hz0, hz1, hz2⟩ := info_parts info65
  obtain ⟨q, hq⟩ : ∃ q, q = L.length := ⟨_, rfl⟩
  have HQ := Lib.hid hq
  rw [← hq] at hL ⊢
  rw [← hq] at HS
  clear hbox hcs h hq hN
  unfold qv
  go_enter Try.func24, Try.ntmps24
  go_wp2_with fail
  generalize (w.alloc (.cells #[.int .i64 (most : Nat), .slice a q c] 44)).alloc (.cells #[.int .i64 0, .slice none 0 0] 44) = w1 at *
  go_loopw [6, 7, 8] (fun vl vk vi wr => ∃ (j m : Nat), j ≤ q ∧ m ≤ j ∧ vi = .int .i64 j ∧ vk = .int .i64 ((j - m : Nat) : Int) ∧ Hid (Cs w wr N most a c L dt j m vl)) (fun _ _ vi _ => q - (intOf vi).toNat)
  case atStart => exact ⟨0, 0, by omega, by omega, rfl, rfl, HS.out⟩
  case round =>
    clear HS
    obtain ⟨j, m, hj, hm, rfl, rfl, HS⟩ := hrel
    have hlt2 := HS.out.box.lt
    obtain ⟨n0, n1⟩ := HS.out.box.net
    rw [← HQ.out] at n1
    by_cases hlt : j < q
    · have hj1 : (j : Int) < (q : Int) := by omega
      have hj0 : (0 : Int) ≤ (j : Int) := by omega
      obtain ⟨⟨f, t, s⟩, hget⟩ : ∃ l, L[j]? = some l := ⟨_, List.getElem?_eq_getElem (by rw [← HQ.out]; exact hlt)⟩
      obtain ⟨b, rfl, _, hbl, z0, z1, z2⟩ := HS.out.rd.get hget
      have hsn := filter_snoc dt L j _ hget
      have HSN := Lib.hid hsn
      clear hget hsn
      by_cases ht : t = dt
      · subst ht
        have hcs : Cs w wr N most (some ⟨b, 0, none⟩) c L t (j + 1) m u6 := by
          refine ⟨HS.out.box, HS.out.rd, ?_, ?_⟩
          · rw [HSN.out, if_pos rfl, List.append_nil]; exact HS.out.m_
          · rw [HSN.out, if_pos rfl, List.append_nil]; exact HS.out.own
        have HC := Lib.hid hcs
        clear hcs
        go_wp2_with fail
        go_roundw
        case rel => exact ⟨j + 1, m, by omega, by omega, i64_eq (by omega), i64_eq (by omega), HC.out⟩
        case measure => simp [intOf]; omega
      · have hd : (t == dt) = false := beq_eq_false_iff_ne.2 ht
        have hown := Lib.hid HS.out.own
        go_wp2_with (at_builtin; refine wpList_append_own_at _ rfl _ _ 42 rfl (w.heap.size + 2) 65 i0 _ 3 32 Try.underlying42 hi0 hz0 hz1 hz2 rfl (by omega) _ m (lets ((L.take j).filter (kp dt))) rfl (hown.out.alloc _) ⟨wr.heap.size, 0, none⟩ 1 1 [.int .i64 f, .int .i64 t, .string s] rfl rfl (World.news_of_block (cs := #[.int .i64 f, .int .i64 t, .string s]) (t := 65) (fr := (0, 0)) (heap_alloc_new wr _)) (by simp [Value.oneCell']) (by unfold maxLen; omega) (by omega) (by simp; omega) ?_)
        intro v' w5 hown' hgrow _ _
        have hb5 := own_below (hown.out.alloc (.cells #[.int .i64 f, .int .i64 t, .string s] 65)) hgrow (by simp; omega)
        have hb6 : Below (w.heap.size + 2) wr w5 := (((Below.refl wr.heap.size wr).alloc (Nat.le_refl _) (.cells #[.int .i64 f, .int .i64 t, .string s] 65)).mono (by omega)).trans hb5
        have hcs : Cs w w5 N most (some ⟨b, 0, none⟩) c L dt (j + 1) (m + 1) v' := by
          refine ⟨HS.out.box.below hb6 (by omega), HS.out.rd.move hb6.size (fun x hx hxl => ?_), ?_, ?_⟩
          · exact hb6.block x (by have := HN.out x hx; omega)
          · rw [HSN.out, if_neg ht, List.length_append, ← HS.out.m_]; rfl
          · rw [HSN.out, if_neg ht, lets_append]; exact hown'
        have HC := Lib.hid hcs
        clear hcs hown' hgrow hb5 hb6
        go_wp2_with fail
        go_roundw
        case rel => exact ⟨j + 1, m + 1, by omega, by omega, i64_eq (by omega), i64_eq (by omega), HC.out⟩
        case measure => simp [intOf]; omega
    · obtain rfl : j = q := by omega
      have hte : L.take j = L := List.take_of_length_le (by rw [← HQ.out]; omega)
      have hown := HS.out.own
      have hmm := HS.out.m_
      rw [hte] at hown hmm
      obtain ⟨a', c', rfl, hR', _⟩ := Rd.own hown hmm
      obtain ⟨z0, z1, z2, z3⟩ := HS.out.box.res
      have n2 := frozen_of_row _ _ 1 _ _ HS.out.box.b2
      have HMM := Lib.hid hmm
      have HR5 := Lib.hid hR'
      clear hte hown hmm hR'
      go_wp2_with fail
      have hne := HR5.out.ne (g := w.heap.size) (by omega)
      have hR6 := HR5.out.store (p := ⟨w.heap.size, 1, none⟩) hne (.slice a' m c')
      have hB6 := HS.out.box.bel.setCell (p := ⟨w.heap.size, 1, none⟩) (Nat.le_refl _) (.slice a' m c')
      have hB4 : (wr.setCell ⟨w.heap.size, 1, none⟩ (.slice a' m c')).heap[w.heap.size + 1]? = some (.cells #[.int .i64 0, .slice none 0 0] 44 (0, 0)) := (Below.heap_setCell _ _ _ _ (by show w.heap.size + 1 ≠ w.heap.size; omega)).trans HS.out.box.b4
      obtain ⟨q1, q2⟩ := rdone (N := N) (most := most) (g := w.heap.size + 1) hB6 hR6 (by omega) (by omega)
      obtain ⟨c0, c1⟩ := st2_cells (most := most) (V := .slice a' m c') hB4
      rw [← HMM.out] at q1 q2
      refine bodyPost_ret (v := .tuple #[qv most a' m c', .int .i64 ((j - m : Nat) : Int)]) ?_ rfl ⟨_, by rw [HMM.out], q1, q2⟩
      unfold st2 at c0 c1
      unfold qv
      simp [results, Try.results24, go_sem, c0, c1]
end Go.Proofs.Ytflaghnbbfdamaa
