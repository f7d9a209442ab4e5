/-
  The reference's function with: a disk with another file, in memory of its own.
-/
import Derived.Test.YtgcghdinccdphaaRefA
import Derived.Deep.RegionLaw
namespace Go.Proofs.Ytgcghdinccdphaa
open Go.RowKit

theorem info9 : (Try.prog.info? 9).map (fun i => (i.zero, i.size, i.bytes)) = some (some (.string ByteArray.empty), 1, 16) := by kernel_rfl
theorem info3 : (Try.prog.info? 3).map (fun i => (i.zero, i.size, i.bytes)) = some (some (.int .i64 0), 1, 8) := by kernel_rfl
/-- the first n texts, the first n numbers -/
def strsOf (F : Nat → List UInt8) (n : Nat) : List Value := (List.range n).map fun j => .string (txt (F j))
def numsOf (S : Nat → Nat) (n : Nat) : List Value := (List.range n).map fun j => .int .i64 (S j : Nat)
theorem strsOf_succ (F : Nat → List UInt8) (n : Nat) : strsOf F n ++ [.string (txt (F n))] = strsOf F (n + 1) := by unfold strsOf; rw [List.range_succ, List.map_append]; rfl
theorem numsOf_succ (S : Nat → Nat) (n : Nat) : numsOf S n ++ [.int .i64 (S n : Nat)] = numsOf S (n + 1) := by unfold numsOf; rw [List.range_succ, List.map_append]; rfl
theorem strsOf_get (F : Nat → List UInt8) (n j : Nat) (h : j < n) : (strsOf F n)[j]? = some (.string (txt (F j))) := by unfold strsOf; rw [List.getElem?_map, List.getElem?_range h]; rfl
theorem numsOf_get (S : Nat → Nat) (n j : Nat) (h : j < n) : (numsOf S n)[j]? = some (.int .i64 (S j : Nat)) := by unfold numsOf; rw [List.getElem?_map, List.getElem?_range h]; rfl

theorem own_apart {w : World} {B e e' n n' : Nat} {v v' : Value} {xs xs' : List Value} (h : w.ownsRow B e 1 v n xs) (h' : w.ownsRow B e' 1 v' n' xs') (hne : e ≠ e') : v.ownBlock = none ∨ v.ownBlock ≠ v'.ownBlock := by
  rcases h.2 with ⟨rfl, _⟩ | ⟨g, cap, cur, rfl, _, h3, _⟩
  · exact .inl rfl
  · right
    rcases h'.2 with ⟨rfl, _⟩ | ⟨g', cap', cur', rfl, _, h3', _⟩
    · intro e; cases e
    · intro e
      have : g = g' := by simpa [Value.ownBlock] using e
      subst this
      rw [h3] at h3'
      injection h3' with h3'
      injection h3' with _ h4
      exact hne h4

theorem own_cap {w : World} {B e n g c : Nat} {xs : List Value} (h : w.ownsRow B e 1 (.slice (some ⟨g, 0, none⟩) n c) n xs) : n ≤ c ∧ c ≤ 9223372036854775807 := by
  rcases h.2 with ⟨h1, _⟩ | ⟨g', cap, cur, h1, _, _, h4, h5, _⟩
  · cases h1
  · injection h1 with _ _ e
    subst e
    unfold maxLen at h5
    exact ⟨h4, by omega⟩
/-- what the loop of with holds -/
structure Wst (w wr : World) (a b c d r : Nat) (F : Nat → List UInt8) (S : Nat → Nat) (vA vS : Value) (nA nS : Nat) : Prop where
  bel : Below w.heap.size w wr
  b4 : wr.heap[w.heap.size]? = some (.cells #[.int .i64 (r : Nat), .slice (some ⟨a, 0, none⟩) 256 c, .slice (some ⟨b, 0, none⟩) 256 d] 45 (0, 0))
  b8 : wr.heap[w.heap.size + 1]? = some (.cells #[.int .i64 0, .slice none 0 0, .slice none 0 0] 45 (0, 0))
  b9 : wr.heap[w.heap.size + 1 + 1]? = some (.cells #[.int .i64 (r : Nat), vA, vS] 45 (0, 0))
  oA : wr.ownsRow (w.heap.size + 3) 9 1 vA nA (strsOf F nA)
  oS : wr.ownsRow (w.heap.size + 3) 3 1 vS nS (numsOf S nS)
section
variable {w wr w1 w2 : World} {a b c d r : Nat} {F : Nat → List UInt8} {S : Nat → Nat} {vA vS v : Value} {nA nS : Nat}
theorem Wst.sz (h : Wst w wr a b c d r F S vA vS nA nS) : w.heap.size + 3 ≤ wr.heap.size := by
  rcases Nat.lt_or_ge (w.heap.size + 1 + 1) wr.heap.size with hlt | hge
  · omega
  · have := h.b9
    rw [Array.getElem?_eq_none hge] at this
    cases this
theorem heap_of_cells {w : World} {g : Nat} {cs : Array Value} {t : TypeId} (h : w.heap[g]? = some (.cells cs t (0, 0))) (i : Nat) (v : Value) : (w.setCell ⟨g, i, none⟩ v).heap[g]? = some (.cells (cs.setIfInBounds i v) t (0, 0)) := heap_setCell_same w g i cs t v h
theorem ne_own {wr : World} {B e n x : Nat} {v : Value} {xs : List Value} (h : wr.ownsRow B e 1 v n xs) (hx : x < B) : some x ≠ v.ownBlock := fun e2 => by have := (own_lt h x e2.symm).1; omega
/-- a text more -/
theorem Wst.putA (h : Wst w wr a b c d r F S vA vS nA nS) (hk : ∀ x, x < wr.heap.size → w1.heap[x]? = wr.heap[x]?) (hs1 : wr.heap.size ≤ w1.heap.size) (ho1 : w1.os = wr.os) (ht1 : w1.tape = wr.tape) (hp1 : w1.output = wr.output)
    (hg : w1.grownBy w2 vA.ownBlock) (ho : w2.ownsRow (w.heap.size + 3) 9 1 v (nA + 1) (strsOf F (nA + 1))) : Wst w (w2.setCell ⟨w.heap.size + 1 + 1, 1, none⟩ v) a b c d r F S v vS (nA + 1) nS := by
  have hsz := h.sz
  have hm : ∀ x, x < w.heap.size + 3 → w2.heap[x]? = wr.heap[x]? := fun x hx => (hg.block x (by omega) (ne_own h.oA hx)).trans (hk x (by omega))
  have hb : Below w.heap.size w w2 := ⟨hg.os.trans (ho1.trans h.bel.os), hg.tape.trans (ht1.trans h.bel.tape), hg.output.trans (hp1.trans h.bel.output), Nat.le_trans h.bel.size (Nat.le_trans hs1 hg.size), fun x hx => (hm x (by omega)).trans (h.bel.block x hx)⟩
  refine ⟨hb.setCell (by show w.heap.size ≤ w.heap.size + 1 + 1; omega) _, ?_, ?_, ?_, ownsRow_setCell_below ho (by show w.heap.size + 1 + 1 < _; omega) _, ?_⟩
  · rw [Below.heap_setCell _ _ _ _ (by show w.heap.size ≠ w.heap.size + 1 + 1; omega), hm _ (by omega)]
    exact h.b4
  · rw [Below.heap_setCell _ _ _ _ (by show w.heap.size + 1 ≠ w.heap.size + 1 + 1; omega), hm _ (by omega)]
    exact h.b8
  · exact heap_of_cells ((hm _ (by omega)).trans h.b9) 1 v
  · refine ownsRow_setCell_below ?_ (by show w.heap.size + 1 + 1 < _; omega) _
    have h1 : w1.ownsRow (w.heap.size + 3) 3 1 vS nS (numsOf S nS) := own_move h.oS fun x hx => hk x (own_lt h.oS x hx).2
    exact World.ownsRow.kept h1 hg (own_apart h.oS h.oA (by decide))
/-- a number more -/
theorem Wst.putS (h : Wst w wr a b c d r F S vA vS nA nS) (hk : ∀ x, x < wr.heap.size → w1.heap[x]? = wr.heap[x]?) (hs1 : wr.heap.size ≤ w1.heap.size) (ho1 : w1.os = wr.os) (ht1 : w1.tape = wr.tape) (hp1 : w1.output = wr.output)
    (hg : w1.grownBy w2 vS.ownBlock) (ho : w2.ownsRow (w.heap.size + 3) 3 1 v (nS + 1) (numsOf S (nS + 1))) : Wst w (w2.setCell ⟨w.heap.size + 1 + 1, 2, none⟩ v) a b c d r F S vA v nA (nS + 1) := by
  have hsz := h.sz
  have hm : ∀ x, x < w.heap.size + 3 → w2.heap[x]? = wr.heap[x]? := fun x hx => (hg.block x (by omega) (ne_own h.oS hx)).trans (hk x (by omega))
  have hb : Below w.heap.size w w2 := ⟨hg.os.trans (ho1.trans h.bel.os), hg.tape.trans (ht1.trans h.bel.tape), hg.output.trans (hp1.trans h.bel.output), Nat.le_trans h.bel.size (Nat.le_trans hs1 hg.size), fun x hx => (hm x (by omega)).trans (h.bel.block x hx)⟩
  refine ⟨hb.setCell (by show w.heap.size ≤ w.heap.size + 1 + 1; omega) _, ?_, ?_, ?_, ?_, ownsRow_setCell_below ho (by show w.heap.size + 1 + 1 < _; omega) _⟩
  · rw [Below.heap_setCell _ _ _ _ (by show w.heap.size ≠ w.heap.size + 1 + 1; omega), hm _ (by omega)]
    exact h.b4
  · rw [Below.heap_setCell _ _ _ _ (by show w.heap.size + 1 ≠ w.heap.size + 1 + 1; omega), hm _ (by omega)]
    exact h.b8
  · exact heap_of_cells ((hm _ (by omega)).trans h.b9) 2 v
  · refine ownsRow_setCell_below ?_ (by show w.heap.size + 1 + 1 < _; omega) _
    have h1 : w1.ownsRow (w.heap.size + 3) 9 1 vA nA (strsOf F nA) := own_move h.oA fun x hx => hk x (own_lt h.oA x hx).2
    exact World.ownsRow.kept h1 hg (own_apart h.oA h.oS (by decide))
theorem Wst.drew (h : Wst w wr a b c d r F S vA vS nA nS) : Wst w wr.drew a b c d r F S vA vS nA nS :=
  ⟨h.bel.drew, h.b4, h.b8, h.b9, h.oA.drew, h.oS.drew⟩
end

set_option maxRecDepth 100000 in
set_option maxHeartbeats 3200000 in
theorem with_any {w : World} {N : Nat → Prop} {a b c d r : Nat} {F : Nat → List UInt8} {S : Nat → Nat} (h : Rfd w N a b c d F S) {k : Nat} (hk : k < 256) (s : ByteArray) (n : Nat) :
    Calls Try.prog 30 #[rval r a b c d, .int .i64 k, .string s, .int .i64 n] w fun e w' => ∃ v, e = .returned v ∧ Rf w' (fun x => w.heap.size ≤ x) v r (upd F k s.data.toList) (upd S k n) ∧ Below w.heap.size w w' := by
  unfold rval
  obtain ⟨G, hG⟩ : ∃ G, G = upd F k s.data.toList := ⟨_, rfl⟩
  obtain ⟨Q, hQ⟩ : ∃ Q, Q = upd S k n := ⟨_, rfl⟩
  rw [← hG, ← hQ]
  have hst : Wst w (((w.alloc (.cells #[.int .i64 (r : Nat), .slice (some ⟨a, 0, none⟩) 256 c, .slice (some ⟨b, 0, none⟩) 256 d] 45)).alloc (.cells #[.int .i64 0, .slice none 0 0, .slice none 0 0] 45)).alloc (.cells #[.int .i64 (r : Nat), .slice none 0 0, .slice none 0 0] 45)) a b c d r G Q (.slice none 0 0) (.slice none 0 0) 0 0 := by
    refine ⟨(((Below.refl _ _).alloc (Nat.le_refl _) _).alloc (by simp) _).alloc (by simp; omega) _, ?_, ?_, ?_, ⟨rfl, .inl ⟨rfl, rfl⟩⟩, ⟨rfl, .inl ⟨rfl, rfl⟩⟩⟩
    · rw [Below.heap_alloc _ _ _ (by simp; omega), Below.heap_alloc _ _ _ (by simp)]
      exact heap_alloc_new w _
    · rw [Below.heap_alloc _ _ _ (by simp)]
      exact heap_alloc2_new w _ _
    · have := heap_alloc_new ((w.alloc (.cells #[.int .i64 (r : Nat), .slice (some ⟨a, 0, none⟩) 256 c, .slice (some ⟨b, 0, none⟩) 256 d] 45)).alloc (.cells #[.int .i64 0, .slice none 0 0, .slice none 0 0] 45)) (.cells #[.int .i64 (r : Nat), .slice none 0 0, .slice none 0 0] 45)
      simpa using this
  have hRa : ∀ W, Below w.heap.size w W → ∀ i, i < 256 → W.cell? ⟨a, i, none⟩ = some (.string (txt (F i))) := fun W hb i hi => (h.below hb).all i hi
  have hRb : ∀ W, Below w.heap.size w W → ∀ i, i < 256 → W.cell? ⟨b, i, none⟩ = some (.int .i64 (S i : Nat)) := fun W hb i hi => (h.below hb).sure i hi
  have HRA := Lib.hid hRa
  have HRB := Lib.hid hRb
  have HST := Lib.hid hst
  have HGE := Lib.hid hG
  have HQE := Lib.hid hQ
  have hcc := h.c1
  have hcc2 := h.c2
  have hdd := h.d1
  have hdd2 := h.d2
  clear hRa hRb hst hG hQ h
  obtain ⟨i9, hi9, hz90, hz91, hz92⟩ := info_parts info9
  obtain ⟨i3, hi3, hz30, hz31, hz32⟩ := info_parts info3
  go_enter Try.func30, Try.ntmps30
  go_wp2_with fail
  generalize ((w.alloc (.cells #[.int .i64 (r : Nat), .slice (some ⟨a, 0, none⟩) 256 c, .slice (some ⟨b, 0, none⟩) 256 d] 45)).alloc (.cells #[.int .i64 0, .slice none 0 0, .slice none 0 0] 45)).alloc (.cells #[.int .i64 (r : Nat), .slice none 0 0, .slice none 0 0] 45) = w0 at *
  go_loopw [10] (fun v wr => ∃ (i : Nat) (vA vS : Value), i ≤ 256 ∧ v = .int .i64 i ∧ Hid (Wst w wr a b c d r G Q vA vS i i)) (fun v _ => 256 - (intOf v).toNat)
  case atStart => exact ⟨0, _, _, by omega, rfl, HST.out⟩
  case round =>
    clear HST
    obtain ⟨i, vA, vS, hi, rfl, HW⟩ := hrel
    have x4 : ∀ j, wr.cell? ⟨w.heap.size, j, none⟩ = #[Value.int .i64 (r : Nat), .slice (some ⟨a, 0, none⟩) 256 c, .slice (some ⟨b, 0, none⟩) 256 d][j]? := fun j => cell_of_row _ _ _ _ _ _ HW.out.b4
    have x41 : wr.cell? ⟨w.heap.size, 1, none⟩ = some (.slice (some ⟨a, 0, none⟩) 256 c) := x4 1
    have x42 : wr.cell? ⟨w.heap.size, 2, none⟩ = some (.slice (some ⟨b, 0, none⟩) 256 d) := x4 2
    have x9 : ∀ j, wr.cell? ⟨w.heap.size + 1 + 1, j, none⟩ = #[Value.int .i64 (r : Nat), vA, vS][j]? := fun j => cell_of_row _ _ _ _ _ _ HW.out.b9
    have x90 : wr.cell? ⟨w.heap.size + 1 + 1, 0, none⟩ = some (.int .i64 (r : Nat)) := x9 0
    have x91 : wr.cell? ⟨w.heap.size + 1 + 1, 1, none⟩ = some vA := x9 1
    have x92 : wr.cell? ⟨w.heap.size + 1 + 1, 2, none⟩ = some vS := x9 2
    have f9 : ∀ j, wr.frozen? ⟨w.heap.size + 1 + 1, j, none⟩ = false := fun j => frozen_of_row _ _ _ _ _ HW.out.b9
    have x8 : ∀ j, wr.cell? ⟨w.heap.size + 1, j, none⟩ = #[Value.int .i64 0, .slice none 0 0, .slice none 0 0][j]? := fun j => cell_of_row _ _ _ _ _ _ HW.out.b8
    have f8 : ∀ j, wr.frozen? ⟨w.heap.size + 1, j, none⟩ = false := fun j => frozen_of_row _ _ _ _ _ HW.out.b8
    have hsz := HW.out.sz
    by_cases hlt : i < 256
    · have i0 : (0 : Int) ≤ (i : Int) := by omega
      have i1 : (i : Int) < 256 := by omega
      have xa := HRA.out wr HW.out.bel i hlt
      have xb := HRB.out wr HW.out.bel i hlt
      have hoA := HW.out.oA
      have hoS := HW.out.oS
      clear x4 x9 x8
      by_cases hik : i = k
      · subst hik
        have hgi : txt (G i) = s := by rw [HGE.out, upd_same, txt_self]
        have hqi : Q i = n := by rw [HQE.out, upd_same]
        have HGI := Lib.hid hgi
        have HQI := Lib.hid hqi
        clear hgi hqi xa xb
        go_wp2_with (at_builtin; refine wpList_append_own _ rfl _ _ 22 rfl (w.heap.size + 3) 9 i9 (.string ByteArray.empty) 1 16 Try.underlying22 hi9 hz90 hz91 hz92 rfl (by decide) _ _ _ rfl (hoA.alloc _) ⟨wr.heap.size, 0, none⟩ 1 1 [.string s] rfl rfl ?c1 ?c2 ?c3 ?c4 ?c5 ?_)
        case c1 => exact cell_one_new _ _ _
        case c2 => intro u hu; rw [List.mem_singleton.1 hu]; rfl
        case c3 => unfold maxLen; omega
        case c4 => omega
        case c5 => simp; omega
        intro v' w2 hown2 hgrow _
        rw [← HGI.out, strsOf_succ] at hown2
        have hP := HW.out.putA (w1 := wr.alloc (.cells #[.string s] 9)) (fun x hx => Below.heap_alloc wr _ x hx) (by simp) rfl rfl rfl hgrow hown2
        have hne9 : some (w.heap.size + 1 + 1) ≠ vA.ownBlock := ne_own HW.out.oA (by omega)
        have y91 : w2.cell? ⟨w.heap.size + 1 + 1, 1, none⟩ = some vA := hgrow.cell ((World.cell?_alloc_lt wr _ ⟨w.heap.size + 1 + 1, 1, none⟩ (by show w.heap.size + 1 + 1 < _; omega)).trans x91) hne9
        have yf : w2.frozen? ⟨w.heap.size + 1 + 1, 1, none⟩ = false := by
          refine (World.frozen?_of_block (a := ⟨w.heap.size + 1 + 1, 1, none⟩) (hgrow.block _ (by simp; omega) hne9)).trans ?_
          refine (World.frozen?_of_block (a := ⟨w.heap.size + 1 + 1, 1, none⟩) (Below.heap_alloc wr _ _ (by show w.heap.size + 1 + 1 < _; omega))).trans (f9 1)
        obtain ⟨va, vn, vc, hv⟩ : ∃ a n c, v' = .slice a n c := by
          rcases hown2.2 with ⟨h, _⟩ | ⟨_, _, _, h, _⟩
          · exact ⟨_, _, _, h⟩
          · exact ⟨_, _, _, h⟩
        subst hv
        have HP := Lib.hid hP
        have z9 : ∀ j, (w2.setCell ⟨w.heap.size + 1 + 1, 1, none⟩ (.slice va vn vc)).cell? ⟨w.heap.size + 1 + 1, j, none⟩ = #[Value.int .i64 (r : Nat), .slice va vn vc, vS][j]? := fun j => cell_of_row _ _ _ _ _ _ hP.b9
        have z92 : (w2.setCell ⟨w.heap.size + 1 + 1, 1, none⟩ (.slice va vn vc)).cell? ⟨w.heap.size + 1 + 1, 2, none⟩ = some vS := z9 2
        have zf : ∀ j, (w2.setCell ⟨w.heap.size + 1 + 1, 1, none⟩ (.slice va vn vc)).frozen? ⟨w.heap.size + 1 + 1, j, none⟩ = false := fun j => frozen_of_row _ _ _ _ _ hP.b9
        have zoS := hP.oS
        have zsz := hP.sz
        clear hP hown2 hgrow hne9 hoA hoS x41 x42 x90 x91 x92 f9 f8 z9
        go_upto_region 7 with (fail)
        clear y91 yf
        generalize w2.setCell ⟨w.heap.size + 1 + 1, 1, none⟩ (.slice va vn vc) = w3 at *
        go_wp2_with (at_builtin; refine wpList_append_own _ rfl _ _ 28 rfl (w.heap.size + 3) 3 i3 (.int .i64 0) 1 8 Try.underlying28 hi3 hz30 hz31 hz32 rfl (by decide) _ _ _ rfl (zoS.alloc _) ⟨w3.heap.size, 0, none⟩ 1 1 [.int .i64 (n : Nat)] rfl rfl ?c1 ?c2 ?c3 ?c4 ?c5 ?_)
        case c1 => exact cell_one_new _ _ _
        case c2 => intro u hu; rw [List.mem_singleton.1 hu]; rfl
        case c3 => unfold maxLen; omega
        case c4 => omega
        case c5 => simp; omega
        intro v2 w4 hown4 hgrow _
        rw [← HQI.out, numsOf_succ] at hown4
        have hP := HP.out.putS (w1 := w3.alloc (.cells #[.int .i64 (n : Nat)] 3)) (fun x hx => Below.heap_alloc w3 _ x hx) (by simp) rfl rfl rfl hgrow hown4
        have hne9 : some (w.heap.size + 1 + 1) ≠ vS.ownBlock := ne_own HP.out.oS (by omega)
        have y92 : w4.cell? ⟨w.heap.size + 1 + 1, 2, none⟩ = some vS := hgrow.cell ((World.cell?_alloc_lt w3 _ ⟨w.heap.size + 1 + 1, 2, none⟩ (by show w.heap.size + 1 + 1 < _; omega)).trans z92) hne9
        have yf : w4.frozen? ⟨w.heap.size + 1 + 1, 2, none⟩ = false := by
          refine (World.frozen?_of_block (a := ⟨w.heap.size + 1 + 1, 2, none⟩) (hgrow.block _ (by simp; omega) hne9)).trans ?_
          refine (World.frozen?_of_block (a := ⟨w.heap.size + 1 + 1, 2, none⟩) (Below.heap_alloc w3 _ _ (by show w.heap.size + 1 + 1 < _; omega))).trans (zf 2)
        obtain ⟨va2, vn2, vc2, hv2⟩ : ∃ a n c, v2 = .slice a n c := by
          rcases hown4.2 with ⟨h, _⟩ | ⟨_, _, _, h, _⟩
          · exact ⟨_, _, _, h⟩
          · exact ⟨_, _, _, h⟩
        subst hv2
        have HP2 := Lib.hid hP
        clear hP hown4 hgrow hne9 zoS z92 zf
        go_wp2_with fail
        go_roundw
        case rel => exact ⟨i + 1, _, _, by omega, i64_eq (by omega), HP2.out⟩
        case measure => simp [intOf]; omega
      · have hgi : txt (G i) = txt (F i) := by rw [HGE.out, upd_other _ _ _ _ hik]
        have hqi : Q i = S i := by rw [HQE.out, upd_other _ _ _ _ hik]
        have HGI := Lib.hid hgi
        have HQI := Lib.hid hqi
        have hik2 : ((i : Int) == (k : Int)) = false := by simp; omega
        clear hgi hqi
        obtain ⟨Ti, hTi⟩ : ∃ Ti, Ti = txt (F i) := ⟨_, rfl⟩
        rw [← hTi] at xa HGI
        clear hTi
        have f91 := f9 1
        have la : a < wr.heap.size := cell_lt xa
        have hne9 : some (w.heap.size + 1 + 1) ≠ vA.ownBlock := ne_own HW.out.oA (by omega)
        have x91a : (wr.alloc (.cells #[.string Ti] 9)).cell? ⟨w.heap.size + 1 + 1, 1, none⟩ = some vA := (World.cell?_alloc_lt wr _ ⟨w.heap.size + 1 + 1, 1, none⟩ (by show w.heap.size + 1 + 1 < _; omega)).trans x91
        have YC : Hid (∀ W, ((wr.alloc (.cells #[.string Ti] 9)).drew).grownBy W vA.ownBlock → W.cell? ⟨w.heap.size + 1 + 1, 1, none⟩ = some vA) := fun W hg =>
          hg.cell ((World.cell?_alloc_lt wr _ ⟨w.heap.size + 1 + 1, 1, none⟩ (by show w.heap.size + 1 + 1 < _; omega)).trans x91) hne9
        have YF : Hid (∀ W, ((wr.alloc (.cells #[.string Ti] 9)).drew).grownBy W vA.ownBlock → W.frozen? ⟨w.heap.size + 1 + 1, 1, none⟩ = false) := fun W hg => by
          refine (World.frozen?_of_block (a := ⟨w.heap.size + 1 + 1, 1, none⟩) (hg.block _ (by simp; omega) hne9)).trans ?_
          refine (World.frozen?_of_block (a := ⟨w.heap.size + 1 + 1, 1, none⟩) (Below.heap_alloc wr _ _ (by show w.heap.size + 1 + 1 < _; omega))).trans f91
        clear hne9
        go_wp2_with fail
        go_cut [] (fun wx => ∃ v, Hid (Wst w wx a b c d r G Q v vS (i + 1) i))
        case first =>
          go_region_law (refine step_append_lies _ (by rfl) _ _ _ (by rfl) (w.heap.size + 3) 9 i9 _ 1 16 Try.underlying22 hi9 hz90 hz91 hz92 rfl (by omega) vA i (strsOf G i) (by rfl) ((hoA.alloc _).drew) ⟨wr.heap.size, 0, none⟩ 1 1 [.string Ti] (by rfl) (by rfl) (World.news_of_block (cs := #[.string Ti]) (t := 9) (fr := (0, 0)) (heap_alloc_new wr _)) (by simp [Value.oneCell']) (by omega) (by unfold maxLen; omega) (by omega) (by simp; omega) (wr.heap.size + 1) (by simp) ?_; intro gg cap w1 hown1 hgrow hat hlt; have y91 := YC.out w1 hgrow; have yf91 := YF.out w1 hgrow)
          all_goals
            rw [← HGI.out, strsOf_succ] at hown1
            have hP := (HW.out.putA (w1 := (wr.alloc (.cells #[.string Ti] 9)).drew) (fun x hx => Below.heap_alloc wr _ x hx) (by simp) rfl rfl rfl hgrow hown1)
            go_wp2_with fail
            go_meet
            exact ⟨_, hP⟩
        case rest =>
        obtain ⟨vA2, HW2⟩ := hcut
        clear YC YF x91a f91 x91 x92 x90 x41 x42 hoA hoS xa f9 f8
        have xb2 := HRB.out wc HW2.out.bel i hlt
        have hoS := HW2.out.oS
        have y4 : ∀ j, wc.cell? ⟨w.heap.size, j, none⟩ = #[Value.int .i64 (r : Nat), .slice (some ⟨a, 0, none⟩) 256 c, .slice (some ⟨b, 0, none⟩) 256 d][j]? := fun j => cell_of_row _ _ _ _ _ _ HW2.out.b4
        have y42 : wc.cell? ⟨w.heap.size, 2, none⟩ = some (.slice (some ⟨b, 0, none⟩) 256 d) := y4 2
        have y9 : ∀ j, wc.cell? ⟨w.heap.size + 1 + 1, j, none⟩ = #[Value.int .i64 (r : Nat), vA2, vS][j]? := fun j => cell_of_row _ _ _ _ _ _ HW2.out.b9
        have x92 : wc.cell? ⟨w.heap.size + 1 + 1, 2, none⟩ = some vS := y9 2
        have f92 : wc.frozen? ⟨w.heap.size + 1 + 1, 2, none⟩ = false := frozen_of_row _ _ _ _ _ HW2.out.b9
        have hsz2 := HW2.out.sz
        obtain ⟨Si, hSi⟩ : ∃ Si, Si = S i := ⟨_, rfl⟩
        rw [← hSi] at xb2 HQI
        clear y4 y9 hSi
        have hne9 : some (w.heap.size + 1 + 1) ≠ vS.ownBlock := ne_own HW2.out.oS (by omega)
        have x92a : (wc.alloc (.cells #[.int .i64 (Si : Nat)] 3)).cell? ⟨w.heap.size + 1 + 1, 2, none⟩ = some vS := (World.cell?_alloc_lt wc _ ⟨w.heap.size + 1 + 1, 2, none⟩ (by show w.heap.size + 1 + 1 < _; omega)).trans x92
        have YC : Hid (∀ W, ((wc.alloc (.cells #[.int .i64 (Si : Nat)] 3)).drew).grownBy W vS.ownBlock → W.cell? ⟨w.heap.size + 1 + 1, 2, none⟩ = some vS) := fun W hg =>
          hg.cell ((World.cell?_alloc_lt wc _ ⟨w.heap.size + 1 + 1, 2, none⟩ (by show w.heap.size + 1 + 1 < _; omega)).trans x92) hne9
        have YF : Hid (∀ W, ((wc.alloc (.cells #[.int .i64 (Si : Nat)] 3)).drew).grownBy W vS.ownBlock → W.frozen? ⟨w.heap.size + 1 + 1, 2, none⟩ = false) := fun W hg => by
          refine (World.frozen?_of_block (a := ⟨w.heap.size + 1 + 1, 2, none⟩) (hg.block _ (by simp; omega) hne9)).trans ?_
          refine (World.frozen?_of_block (a := ⟨w.heap.size + 1 + 1, 2, none⟩) (Below.heap_alloc wc _ _ (by show w.heap.size + 1 + 1 < _; omega))).trans f92
        clear hne9
        go_wp2_with fail
        go_region_law (refine step_append_lies _ (by rfl) _ _ _ (by rfl) (w.heap.size + 3) 3 i3 _ 1 8 Try.underlying28 hi3 hz30 hz31 hz32 rfl (by omega) vS i (numsOf Q i) (by rfl) ((hoS.alloc _).drew) ⟨wc.heap.size, 0, none⟩ 1 1 [.int .i64 (Si : Nat)] (by rfl) (by rfl) (World.news_of_block (cs := #[.int .i64 (Si : Nat)]) (t := 3) (fr := (0, 0)) (heap_alloc_new wc _)) (by simp [Value.oneCell']) (by omega) (by unfold maxLen; omega) (by omega) (by simp; omega) (wc.heap.size + 1) (by simp) ?_; intro gg cap w1 hown1 hgrow hat hlt; have y91 := YC.out w1 hgrow; have yf91 := YF.out w1 hgrow)
        all_goals
          rw [← HQI.out, numsOf_succ] at hown1
          have hP := (HW2.out.putS (w1 := (wc.alloc (.cells #[.int .i64 (Si : Nat)] 3)).drew) (fun x hx => Below.heap_alloc wc _ x hx) (by simp) rfl rfl rfl hgrow hown1)
          have HP3 := Lib.hid hP
          clear hP hown1 hgrow y91 yf91
          go_wp2_with fail
          go_roundw
          case rel => exact ⟨i + 1, _, _, by omega, i64_eq (by omega), HP3.out⟩
          case measure => simp [intOf]; omega
    · obtain rfl : i = 256 := by omega
      obtain ⟨gA, cA, hvA, _⟩ := HW.out.oA.form (by omega)
      obtain ⟨gS, cS, hvS, _⟩ := HW.out.oS.form (by omega)
      subst hvA; subst hvS
      have x80 : wr.cell? ⟨w.heap.size + 1, 0, none⟩ = some (.int .i64 0) := x8 0
      have x81 : wr.cell? ⟨w.heap.size + 1, 1, none⟩ = some (.slice none 0 0) := x8 1
      have x82 : wr.cell? ⟨w.heap.size + 1, 2, none⟩ = some (.slice none 0 0) := x8 2
      clear x4 x9 x8
      go_wp2_with fail
      have hf8 : (((wr.setCell ⟨w.heap.size + 1, 0, none⟩ (.int .i64 (r : Nat))).setCell ⟨w.heap.size + 1, 1, none⟩ (.slice (some ⟨gA, 0, none⟩) 256 cA)).setCell ⟨w.heap.size + 1, 2, none⟩ (.slice (some ⟨gS, 0, none⟩) 256 cS)).heap[w.heap.size + 1]? =
          some (.cells #[.int .i64 (r : Nat), .slice (some ⟨gA, 0, none⟩) 256 cA, .slice (some ⟨gS, 0, none⟩) 256 cS] 45 (0, 0)) := heap_of_cells (heap_of_cells (heap_of_cells HW.out.b8 0 _) 1 _) 2 _
      have hbel := ((HW.out.bel.setCell (p := ⟨w.heap.size + 1, 0, none⟩) (by show w.heap.size ≤ w.heap.size + 1; omega) (.int .i64 (r : Nat))).setCell (p := ⟨w.heap.size + 1, 1, none⟩) (by show w.heap.size ≤ w.heap.size + 1; omega) (.slice (some ⟨gA, 0, none⟩) 256 cA)).setCell (p := ⟨w.heap.size + 1, 2, none⟩) (by show w.heap.size ≤ w.heap.size + 1; omega) (.slice (some ⟨gS, 0, none⟩) 256 cS)
      have hoA := ownsRow_setCell_below (ownsRow_setCell_below (ownsRow_setCell_below HW.out.oA (a := ⟨w.heap.size + 1, 0, none⟩) (by show w.heap.size + 1 < _; omega) (.int .i64 (r : Nat))) (a := ⟨w.heap.size + 1, 1, none⟩) (by show w.heap.size + 1 < _; omega) (.slice (some ⟨gA, 0, none⟩) 256 cA)) (a := ⟨w.heap.size + 1, 2, none⟩) (by show w.heap.size + 1 < _; omega) (.slice (some ⟨gS, 0, none⟩) 256 cS)
      have hoS := ownsRow_setCell_below (ownsRow_setCell_below (ownsRow_setCell_below HW.out.oS (a := ⟨w.heap.size + 1, 0, none⟩) (by show w.heap.size + 1 < _; omega) (.int .i64 (r : Nat))) (a := ⟨w.heap.size + 1, 1, none⟩) (by show w.heap.size + 1 < _; omega) (.slice (some ⟨gA, 0, none⟩) 256 cA)) (a := ⟨w.heap.size + 1, 2, none⟩) (by show w.heap.size + 1 < _; omega) (.slice (some ⟨gS, 0, none⟩) 256 cS)
      generalize ((wr.setCell ⟨w.heap.size + 1, 0, none⟩ (.int .i64 (r : Nat))).setCell ⟨w.heap.size + 1, 1, none⟩ (.slice (some ⟨gA, 0, none⟩) 256 cA)).setCell ⟨w.heap.size + 1, 2, none⟩ (.slice (some ⟨gS, 0, none⟩) 256 cS) = wf at *
      have q : ∀ j, wf.cell? ⟨w.heap.size + 1, j, none⟩ = #[Value.int .i64 (r : Nat), .slice (some ⟨gA, 0, none⟩) 256 cA, .slice (some ⟨gS, 0, none⟩) 256 cS][j]? := fun j => cell_of_row _ _ _ _ _ _ hf8
      have q0 : wf.cell? ⟨w.heap.size + 1, 0, none⟩ = some (.int .i64 (r : Nat)) := q 0
      have q1 : wf.cell? ⟨w.heap.size + 1, 1, none⟩ = some (.slice (some ⟨gA, 0, none⟩) 256 cA) := q 1
      have q2 : wf.cell? ⟨w.heap.size + 1, 2, none⟩ = some (.slice (some ⟨gS, 0, none⟩) 256 cS) := q 2
      have lA := (own_lt hoA gA rfl).1
      have lS := (own_lt hoS gS rfl).1
      have rA : ∀ j, j < 256 → wf.cell? ⟨gA, j, none⟩ = some (.string (txt (G j))) := fun j hj => by rw [hoA.cellAt j (by omega)]; exact strsOf_get G 256 j hj
      have rS : ∀ j, j < 256 → wf.cell? ⟨gS, j, none⟩ = some (.int .i64 (Q j : Nat)) := fun j hj => by rw [hoS.cellAt j (by omega)]; exact numsOf_get Q 256 j hj
      have bA := own_cap hoA
      have bS := own_cap hoS
      refine bodyPost_ret (v := rval r gA gS cA cS) (by unfold rval; simp [results, Try.results30, go_sem, q0, q1, q2]) rfl ⟨_, rfl, ⟨gA, gS, cA, cS, rfl, ⟨?_, ?_, rA, rS, bA.1, bA.2, bS.1, bS.2⟩⟩, hbel⟩
      · show w.heap.size ≤ gA; omega
      · show w.heap.size ≤ gS; omega
end Go.Proofs.Ytgcghdinccdphaa
