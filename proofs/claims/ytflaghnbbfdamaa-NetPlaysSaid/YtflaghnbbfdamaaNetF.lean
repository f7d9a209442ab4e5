/-
  slices.Delete of one letter.
-/
import Derived.Test.YtflaghnbbfdamaaNetB
import Derived.Lib.SliceRun
import Derived.Lib.SlicesDelete
import Derived.Deep.RegionLaw
import Derived.Deep.Upon
namespace Go.Proofs.Ytflaghnbbfdamaa
open Go.RowKit

theorem info30' : (Try.prog.info? 30).map (fun i => (i.zero, i.size, i.bytes)) = some (some (.agg #[.int .i64 0, .int .i64 0, .string ⟨#[]⟩]), 3, 32) := by kernel_rfl
theorem zero30 (w : World) : (zeroValue 30).run Try.prog w = .ok (.agg #[.int .i64 0, .int .i64 0, .string ⟨#[]⟩]) w := by kernel_rfl
/-- cells laid over cells -/
def setl (cs : Array Value) : Nat → List Value → Array Value
  | _, [] => cs
  | o, v :: r => setl (cs.setIfInBounds o v) (o + 1) r
theorem setl_size : ∀ (vs : List Value) (o : Nat) (cs : Array Value), (setl cs o vs).size = cs.size
  | [], _, _ => rfl
  | v :: r, o, cs => by rw [setl, setl_size r]; simp
theorem setl_get : ∀ (vs : List Value) (o : Nat) (cs : Array Value) (j : Nat), o + vs.length ≤ cs.size → (setl cs o vs)[j]? = if o ≤ j ∧ j < o + vs.length then vs[j - o]? else cs[j]?
  | [], o, cs, j, _ => by rw [if_neg (by simp)]; rfl
  | v :: r, o, cs, j, h => by
    simp only [List.length_cons] at h
    rw [setl, setl_get r (o + 1) _ j (by simp; omega)]
    by_cases h1 : o + 1 ≤ j ∧ j < o + 1 + r.length
    · rw [if_pos h1, if_pos (by simp; omega), show j - o = (j - (o + 1)) + 1 by omega, List.getElem?_cons_succ]
    · rw [if_neg h1]
      by_cases h2 : j = o
      · subst h2
        rw [if_pos (by simp), Nat.sub_self, Array.getElem?_setIfInBounds_self_of_lt (by omega)]
        rfl
      · rw [if_neg (by simp; omega), Array.getElem?_setIfInBounds_ne (by omega)]
theorem heap_setl : ∀ (vs : List Value) (o : Nat) (w : World) (g : Nat) (cs : Array Value) (t : TypeId), w.heap[g]? = some (.cells cs t (0, 0)) → (w.setCells g o vs).heap[g]? = some (.cells (setl cs o vs) t (0, 0))
  | [], _, _, _, _, _, h => h
  | v :: r, o, w, g, cs, t, h => heap_setl r (o + 1) _ g _ t (heap_setCell_same w g o cs t v h)
theorem grown_setCells (w : World) (g o : Nat) (vs : List Value) : w.grownBy (w.setCells g o vs) (some g) := by
  induction vs generalizing w o with
  | nil => exact ⟨rfl, rfl, rfl, Nat.le_refl _, fun _ _ _ => rfl⟩
  | cons v r ih =>
    have h := ih (w.setCell ⟨g, o, none⟩ v) (o + 1)
    have hs : (w.setCell ⟨g, o, none⟩ v).heap.size = w.heap.size := by simp [World.setCell]
    exact ⟨h.os, h.tape, h.output, by have := h.size; rw [hs] at this; exact this, fun i hi hne => (h.block i (by rw [hs]; exact hi) hne).trans (Below.heap_setCell _ _ _ _ (fun e => hne (by rw [e])))⟩
theorem clear30 (w : World) (b o c : Nat) (ty : TypeId) (hc : ∀ j, j < 3 → (w.cell? ⟨b, o + j, none⟩).isSome = true) (hf : ∀ j, j < 3 → w.frozen? ⟨b, o + j, none⟩ = false) :
    (Builtin.clear_ #[52] ty #[.slice (some ⟨b, o, none⟩) 1 c]).run Try.prog w = .ok (.tuple #[]) (w.setCells b o [.int .i64 0, .int .i64 0, .string ⟨#[]⟩]) := by
  have hst := run_storeCells_cells (P := Try.prog) b o [.int .i64 0, .int .i64 0, .string ⟨#[]⟩] 0 w (by simpa using hc) (by simpa using hf) (by intro v hv'; simp at hv'; rcases hv' with rfl | rfl | rfl <;> rfl)
  simp only [Nat.add_zero] at hst
  have hz : (Builtin.zeroCells (Value.agg #[.int .i64 0, .int .i64 0, .string ⟨#[]⟩]).cells 1).toList = [.int .i64 0, .int .i64 0, .string ⟨#[]⟩] := by first | kernel_rfl | simp [Builtin.zeroCells, Value.cells]
  simp [Builtin.clear_, run_underlying Try.underlying52, hz, hst]

theorem lets_one (L : List Lt) : ∀ u ∈ lets L, u.oneCell' = true := by
  induction L with
  | nil => intro u hu; cases hu
  | cons l r ih =>
    intro u hu
    simp only [lets, List.mem_cons] at hu
    rcases hu with rfl | rfl | rfl | hu
    · rfl
    · rfl
    · rfl
    · exact ih u hu
theorem lets_take (L : List Lt) (p : Nat) : lets (L.take p) = (lets L).take (p * 3) := by
  induction L generalizing p with
  | nil => simp [lets]
  | cons l r ih =>
    cases p with
    | zero => simp [lets]
    | succ p => rw [show (p + 1) * 3 = p * 3 + 3 by omega]; simp [lets, ih]
theorem lets_drop (L : List Lt) (p : Nat) : lets (L.drop p) = (lets L).drop (p * 3) := by
  induction L generalizing p with
  | nil => simp [lets]
  | cons l r ih =>
    cases p with
    | zero => simp
    | succ p => rw [show (p + 1) * 3 = p * 3 + 3 by omega]; simp [lets, ih]
theorem lets_erase (L : List Lt) (p : Nat) : lets (L.eraseIdx p) = (lets L).take (p * 3) ++ (lets L).drop ((p + 1) * 3) := by
  rw [List.eraseIdx_eq_take_drop_succ, lets_append, lets_take, lets_drop]

set_option maxHeartbeats 4000000 in
set_option maxRecDepth 100000 in
theorem delete_ok {w : World} {B gg cap p q : Nat} {L : List Lt} (hrow : w.ownsRow B 30 3 (.slice (some ⟨gg, 0, none⟩) L.length cap) L.length (lets L)) (hp : p < L.length) (hq : q = p + 1) (hL : L.length ≤ 1000000) :
    Calls Try.prog 20 #[.slice (some ⟨gg, 0, none⟩) L.length cap, .int .i64 (p : Nat), .int .i64 (q : Nat)] w fun e w' => e = .returned (.slice (some ⟨gg, 0, none⟩) (L.length - 1) cap) ∧
      w'.ownsRow B 30 3 (.slice (some ⟨gg, 0, none⟩) (L.length - 1) cap) (L.length - 1) (lets (L.eraseIdx p)) ∧ w.grownBy w' (some gg) := by
  obtain ⟨i0, hi0, hz0, hz1, hz2⟩ := info_parts info30'
  obtain ⟨hlen, h2⟩ := hrow
  rcases h2 with ⟨h0, _⟩ | ⟨g', cap', cur, hv, hB, hh, hnc, hcm, hsz, htake⟩
  · cases h0
  · injection hv with hv1 hv2 hv3
    injection hv1 with hv1
    injection hv1 with hv1
    subst hv1 hv3
    unfold maxLen at hcm
    obtain ⟨n, hn⟩ : ∃ n, n = L.length := ⟨_, rfl⟩
    rw [← hn] at hlen hnc htake hp hL ⊢
    have hcur : ∀ j, j < n * 3 → cur[j]? = (lets L)[j]? := fun j hj => by
      rw [← htake, List.getElem?_take, if_pos hj, Array.getElem?_toList]
    obtain ⟨news, hnews⟩ : ∃ news, news = (lets L).drop (q * 3) := ⟨_, rfl⟩
    have hnl : news.length = (n - q) * 3 := by rw [hnews, List.length_drop, hlen]; omega
    have hcell : ∀ j, w.cell? ⟨gg, j, none⟩ = cur[j]? := fun j => cell_of_row _ _ _ _ _ _ hh
    have hfr : ∀ j, w.frozen? ⟨gg, j, none⟩ = false := fun j => frozen_of_row _ _ _ _ _ hh
    obtain ⟨A, hA, hsrc⟩ : ∃ A : Addr, (if cap = q then some (⟨gg, 0, none⟩ : Addr) else some ⟨gg, q * 3, none⟩) = some A ∧ Hid (∀ t u, news[t]? = some u → w.drew.cell? (A.add t) = some u) := by
      by_cases h : cap = q
      · refine ⟨⟨gg, 0, none⟩, by simp [h], fun t u hu => ?_⟩
        have h0 : news.length = 0 := by rw [hnl]; omega
        rw [List.length_eq_zero_iff.1 h0] at hu
        simp at hu
      · refine ⟨⟨gg, q * 3, none⟩, by simp [h], fun t u hu => ?_⟩
        have ht := (List.getElem?_eq_some_iff.1 hu).1
        rw [hnl] at ht
        rw [hnews, List.getElem?_drop] at hu
        have e : (⟨gg, q * 3, none⟩ : Addr).add t = ⟨gg, q * 3 + t, none⟩ := by unfold Addr.add; split <;> simp_all
        rw [e]
        show w.cell? _ = _
        rw [hcell, hcur _ (by omega)]
        exact hu
    have s1 : Hid (news.length = (n - q) * 3) := hnl
    have s2 : Hid (∀ u ∈ news, u.oneCell' = true) := by
      intro u hu
      rw [hnews] at hu
      exact lets_one L u (List.mem_of_mem_drop hu)
    have hsome : ∀ j, j < n * 3 → cur[j]?.isSome = true := fun j hj => by rw [Array.getElem?_eq_getElem (by rw [hsz]; omega)]; rfl
    have s3 : Hid (∀ t, t < news.length → (w.drew.cell? ⟨gg, 0 + p * 3 + t, none⟩).isSome = true ∧ w.drew.frozen? ⟨gg, 0 + p * 3 + t, none⟩ = false) := by
      intro t ht
      rw [hnl] at ht
      exact ⟨by show (w.cell? _).isSome = true; rw [hcell]; exact hsome _ (by omega), hfr _⟩
    obtain ⟨W1, hW1⟩ : ∃ W1, W1 = w.drew.setCells gg (0 + p * 3) news := ⟨_, rfl⟩
    have hh1 : W1.heap[gg]? = some (.cells (setl cur (p * 3) news) 30 (0, 0)) := by
      rw [hW1, Nat.zero_add]; exact heap_setl news _ w.drew gg cur 30 hh
    have hcl : ∀ ty, (Builtin.clear_ #[52] ty #[.slice (some ⟨gg, (n - 1) * 3, none⟩) 1 (cap - (n - 1))]).run Try.prog W1 = .ok (.tuple #[]) (W1.setCells gg ((n - 1) * 3) [.int .i64 0, .int .i64 0, .string ⟨#[]⟩]) := fun ty =>
      clear30 W1 gg _ _ ty (fun j hj => by rw [cell_of_row _ _ _ _ _ _ hh1, Array.getElem?_eq_getElem (by rw [setl_size, hsz]; omega)]; rfl) (fun j hj => frozen_of_row _ _ _ _ _ hh1)
    have hfin : Hid ((W1.setCells gg ((n - 1) * 3) [.int .i64 0, .int .i64 0, .string ⟨#[]⟩]).ownsRow B 30 3 (.slice (some ⟨gg, 0, none⟩) (n - 1) cap) (n - 1) (lets (L.eraseIdx p)) ∧ w.grownBy (W1.setCells gg ((n - 1) * 3) [.int .i64 0, .int .i64 0, .string ⟨#[]⟩]) (some gg)) := by
      have hlz : (lets (L.eraseIdx p)).length = (n - 1) * 3 := by rw [lets_length, List.length_eraseIdx_of_lt (by omega), ← hn]
      refine ⟨⟨hlz, .inr ⟨gg, cap, _, rfl, hB, heap_setl _ _ _ _ _ _ hh1, by omega, by unfold maxLen; omega, by rw [setl_size, setl_size, hsz], ?_⟩⟩, ?_⟩
      · apply List.ext_getElem?
        intro j
        rw [List.getElem?_take, lets_erase, ← hq]
        by_cases hj : j < (n - 1) * 3
        · rw [if_pos hj, Array.getElem?_toList, setl_get _ _ _ _ (by rw [setl_size, hsz]; simp; omega), if_neg (by omega), setl_get _ _ _ _ (by rw [hsz, hnl]; omega), hnl]
          by_cases hj2 : p * 3 ≤ j
          · rw [if_pos (by omega), List.getElem?_append_right (by simp; omega), hnews]
            congr 1
            simp [hlen]
            omega
          · rw [if_neg (by omega), List.getElem?_append_left (by simp [hlen]; omega), List.getElem?_take, if_pos (by omega), hcur _ (by omega)]
        · rw [if_neg hj, hq, ← lets_erase, List.getElem?_eq_none (by omega)]
      · have k1 := grown_setCells w.drew gg (0 + p * 3) news
        rw [← hW1] at k1
        have k2 := grown_setCells W1 gg ((n - 1) * 3) [.int .i64 0, .int .i64 0, .string ⟨#[]⟩]
        have e1 := k1.size
        exact ⟨k2.os.trans k1.os, k2.tape.trans k1.tape, k2.output.trans k1.output, Nat.le_trans k1.size k2.size, fun i hi hne => (k2.block i (Nat.lt_of_lt_of_le hi k1.size) hne).trans (k1.block i hi hne)⟩
    have hW : Hid (W1 = w.drew.setCells gg (0 + p * 3) news) := hW1
    have hne0 : ¬ cap = n - 1 := by omega
    have hpn : ((p : Int) == (q : Int)) = false := beq_eq_false_iff_ne.2 (by omega)
    have hic : p ≤ cap := by omega
    have hjc : q ≤ cap := by omega
    have hpq : p ≤ q := by omega
    have hqn : q ≤ n := by omega
    have e1 : p + (n - q) = n - 1 := by omega
    have e2 : n - (n - 1) = 1 := by omega
    clear hq hn hW1 hh1 hsome hfr hcell hnl hnews hcur htake hsz hh hlen
    go_enter Try.func20, Try.ntmps20
    go_wp2_with fail
    go_region_law (refine step_append_room rfl (.tmp 22) (.tmp 25) 52 rfl 30 i0 3 Try.underlying52 hi0 hz1 gg 0 p cap (by simp [Act.eval, Act.put]) A (n - q) (cap - q) news (by simp [Act.eval, Act.put]) s1.out hsrc.out s2.out (by omega) s3.out ?_; rw [← hW.out])
    all_goals
      go_wp2_with fail
      go_ret
      exact ⟨rfl, hfin.out⟩
end Go.Proofs.Ytflaghnbbfdamaa
