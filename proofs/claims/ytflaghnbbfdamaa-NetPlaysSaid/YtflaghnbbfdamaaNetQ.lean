/-
  The document's net as a value; its functions New, place, Between.
-/
import Derived.Test.YtflaghnbbfdamaaNetP
namespace Go.Proofs.Ytflaghnbbfdamaa
open Go.RowKit

/-- the document's letters: a row that is read alone -/
def Rd (w : World) (N : Nat → Prop) (a : Option Addr) (c : Nat) (L : List Lt) : Prop :=
  L.length ≤ c ∧ c ≤ maxLen ∧ ((a = none ∧ L = [] ∧ c = 0) ∨ ∃ b, a = some ⟨b, 0, none⟩ ∧ N b ∧ b < w.heap.size ∧ ∀ i f t s, L[i]? = some (f, t, s) →
    w.cell? ⟨b, i * 3, none⟩ = some (.int .i64 f) ∧ w.cell? ⟨b, i * 3 + 1, none⟩ = some (.int .i64 t) ∧ w.cell? ⟨b, i * 3 + 2, none⟩ = some (.string s))
/-- the value -/
def qv (most : Nat) (a : Option Addr) (n c : Nat) : Value := .agg #[.int .i64 (most : Nat), .slice a n c]
def Rv (w : World) (N : Nat → Prop) (v : Value) (most : Nat) (L : List Lt) : Prop := ∃ a c, v = qv most a L.length c ∧ Rd w N a c L
section
variable {w w' : World} {N N' : Nat → Prop} {a : Option Addr} {c most : Nat} {L : List Lt} {v : Value}
theorem Rd.move (h : Rd w N a c L) (hs : w.heap.size ≤ w'.heap.size) (hb : ∀ b, N b → b < w.heap.size → w'.heap[b]? = w.heap[b]?) : Rd w' N a c L := by
  obtain ⟨h1, h2, h3⟩ := h
  refine ⟨h1, h2, ?_⟩
  rcases h3 with h3 | ⟨b, ha, hn, hlt, hc⟩
  · exact .inl h3
  · have he := hb b hn hlt
    refine .inr ⟨b, ha, hn, Nat.lt_of_lt_of_le hlt hs, fun i f t s hi => ?_⟩
    obtain ⟨k0, k1, k2⟩ := hc i f t s hi
    exact ⟨(World.cell?_of_block (a := ⟨b, i * 3, none⟩) he).trans k0, (World.cell?_of_block (a := ⟨b, i * 3 + 1, none⟩) he).trans k1, (World.cell?_of_block (a := ⟨b, i * 3 + 2, none⟩) he).trans k2⟩
theorem Rd.below (h : Rd w N a c L) (hb : Below w.heap.size w w') : Rd w' N a c L := h.move hb.size fun b _ hl => hb.block b hl
theorem Rd.kept (h : Rd w N a c L) (hk : Kept N w w') : Rd w' N a c L := h.move hk.size fun b hn _ => hk.block b hn
theorem Rd.more (h : Rd w N a c L) (hN : ∀ x, N x → N' x) : Rd w N' a c L := by
  obtain ⟨h1, h2, h3⟩ := h
  refine ⟨h1, h2, ?_⟩
  rcases h3 with h3 | ⟨b, ha, hn, h⟩
  · exact .inl h3
  · exact .inr ⟨b, ha, hN b hn, h⟩
theorem Rd.fresh {B : Nat} (h : Rd w' (fun x => B ≤ x) a c L) (hB : w.heap.size ≤ B) : Rd w' (NN N w w') a c L := by
  obtain ⟨h1, h2, h3⟩ := h
  refine ⟨h1, h2, ?_⟩
  rcases h3 with h3 | ⟨b, ha, hn, hlt, h⟩
  · exact .inl h3
  · exact .inr ⟨b, ha, .inr ⟨Nat.le_trans hB hn, hlt⟩, hlt, h⟩
theorem Rd.store (h : Rd w N a c L) {p : Addr} (hp : ∀ b, a = some ⟨b, 0, none⟩ → b ≠ p.block) (u : Value) : Rd (w.setCell p u) N a c L := by
  obtain ⟨h1, h2, h3⟩ := h
  refine ⟨h1, h2, ?_⟩
  rcases h3 with h3 | ⟨b, ha, hn, hlt, hc⟩
  · exact .inl h3
  · have he := Below.heap_setCell w p u b (hp b ha)
    refine .inr ⟨b, ha, hn, by simpa [World.setCell] using hlt, fun i f t s hi => ?_⟩
    obtain ⟨k0, k1, k2⟩ := hc i f t s hi
    exact ⟨(World.cell?_of_block (a := ⟨b, i * 3, none⟩) he).trans k0, (World.cell?_of_block (a := ⟨b, i * 3 + 1, none⟩) he).trans k1, (World.cell?_of_block (a := ⟨b, i * 3 + 2, none⟩) he).trans k2⟩
theorem Rd.drew (h : Rd w N a c L) : Rd w.drew N a c L := h.move (Nat.le_refl _) fun _ _ _ => rfl
theorem Rd.drewN (h : Rd w N a c L) (n : Nat) : Rd (w.drewN n) N a c L := h.move (Nat.le_refl _) fun _ _ _ => rfl
theorem Rd.get (h : Rd w N a c L) {i : Nat} {f t : Int} {s : ByteArray} (hi : L[i]? = some (f, t, s)) : ∃ b, a = some ⟨b, 0, none⟩ ∧ N b ∧ b < w.heap.size ∧
    w.cell? ⟨b, i * 3, none⟩ = some (.int .i64 f) ∧ w.cell? ⟨b, i * 3 + 1, none⟩ = some (.int .i64 t) ∧ w.cell? ⟨b, i * 3 + 2, none⟩ = some (.string s) := by
  obtain ⟨h1, h2, h3⟩ := h
  rcases h3 with ⟨_, h4, _⟩ | ⟨b, ha, hn, hlt, hc⟩
  · subst h4; simp at hi
  · exact ⟨b, ha, hn, hlt, hc i f t s hi⟩
theorem Rd.there (h : Rd w N a c L) (hne : L ≠ []) : ∃ b, a = some ⟨b, 0, none⟩ ∧ N b ∧ b < w.heap.size := by
  obtain ⟨h1, h2, h3⟩ := h
  rcases h3 with ⟨_, h4, _⟩ | ⟨b, ha, hn, hlt, _⟩
  · exact absurd h4 hne
  · exact ⟨b, ha, hn, hlt⟩
theorem Rv.move (h : Rv w N v most L) (hs : w.heap.size ≤ w'.heap.size) (hb : ∀ b, N b → b < w.heap.size → w'.heap[b]? = w.heap[b]?) : Rv w' N v most L := by
  obtain ⟨a, c, hv, h⟩ := h; exact ⟨a, c, hv, h.move hs hb⟩
theorem Rv.below (h : Rv w N v most L) (hb : Below w.heap.size w w') : Rv w' N v most L := by
  obtain ⟨a, c, hv, h⟩ := h; exact ⟨a, c, hv, h.below hb⟩
theorem Rv.kept (h : Rv w N v most L) (hk : Kept N w w') : Rv w' N v most L := by
  obtain ⟨a, c, hv, h⟩ := h; exact ⟨a, c, hv, h.kept hk⟩
theorem Rv.more (h : Rv w N v most L) (hN : ∀ x, N x → N' x) : Rv w N' v most L := by
  obtain ⟨a, c, hv, h⟩ := h; exact ⟨a, c, hv, h.more hN⟩
end
theorem Rd.nil (w : World) (N : Nat → Prop) : Rd w N none 0 [] := ⟨Nat.le_refl _, Nat.zero_le _, .inl ⟨rfl, rfl, rfl⟩⟩
/-- a row of the call's own is one that is read -/
theorem Rd.own {w : World} {B n : Nat} {v : Value} {L : List Lt} (h : w.ownsRow B 65 3 v n (lets L)) (hn : n = L.length) : ∃ a c, v = .slice a n c ∧ Rd w (fun x => B ≤ x) a c L ∧ ∀ b, a = some ⟨b, 0, none⟩ → v.ownBlock = some b := by
  subst hn
  rcases h.2 with ⟨rfl, h1⟩ | ⟨g, cap, cur, rfl, hB, hh, hnc, hcm, hsz, htake⟩
  · have hL : L = [] := List.length_eq_zero_iff.1 h1
    subst hL
    exact ⟨none, 0, rfl, Rd.nil w _, fun b e => by cases e⟩
  · have hc : ∀ j, j < L.length * 3 → w.cell? ⟨g, j, none⟩ = (lets L)[j]? := fun j hj => by
      rw [cell_of_row _ _ _ _ _ _ hh, ← htake, List.getElem?_take, if_pos hj, Array.getElem?_toList]
    have hgl : g < w.heap.size := by
      rcases Nat.lt_or_ge g w.heap.size with h | h
      · exact h
      · rw [Array.getElem?_eq_none h] at hh; cases hh
    refine ⟨_, cap, rfl, ⟨hnc, hcm, .inr ⟨g, rfl, hB, hgl, fun i f t s hi => ?_⟩⟩, fun b e => by injection e with e; injection e with e; subst e; rfl⟩
    have hil := (List.getElem?_eq_some_iff.1 hi).1
    obtain ⟨l0, l1, l2⟩ := lets_get L i _ hi
    exact ⟨(hc _ (by omega)).trans l0, (hc _ (by omega)).trans l1, (hc _ (by omega)).trans l2⟩

theorem box2 (w : World) (x y : Value) (t : TypeId) : (w.alloc (.cells #[x, y] t)).cell? ⟨w.heap.size, 0, none⟩ = some x ∧ (w.alloc (.cells #[x, y] t)).cell? ⟨w.heap.size, 1, none⟩ = some y := by
  have hh := heap_alloc_new w (.cells #[x, y] t)
  exact ⟨by rw [cell_of_row _ _ _ _ _ _ hh]; rfl, by rw [cell_of_row _ _ _ _ _ _ hh]; rfl⟩
theorem rplace_none (w : World) (most c : Nat) (k : Int) : Calls Try.prog 28 #[qv most none 0 c, .int .i64 k] w fun e w' => e = .returned (.int .i64 (-1)) ∧ Below w.heap.size w w' := by
  unfold qv
  have hbel : Below w.heap.size w (w.alloc (.cells #[.int .i64 (most : Nat), .slice none 0 c] 44)) := (Below.refl _ _).alloc (Nat.le_refl _) _
  obtain ⟨x0, x1⟩ := box2 w (.int .i64 (most : Nat)) (.slice none 0 c) 44
  go_enter Try.func28, Try.ntmps28
  go_wp2_with fail
  go_ret
  exact ⟨rfl, hbel⟩
theorem rplace_ok (w : World) (most n c : Nat) (a : Option Addr) (k : Int) (h0 : 0 < n) (hn : n ≤ 1000000) : Calls Try.prog 28 #[qv most a n c, .int .i64 k] w fun e w' => e = .returned (.int .i64 (plc k n : Nat)) ∧ Below w.heap.size w w' := by
  unfold qv
  have hbel : Below w.heap.size w (w.alloc (.cells #[.int .i64 (most : Nat), .slice a n c] 44)) := (Below.refl _ _).alloc (Nat.le_refl _) _
  obtain ⟨x0, x1⟩ := box2 w (.int .i64 (most : Nat)) (.slice a n c) 44
  have he : ((n : Int) == 0) = false := beq_eq_false_iff_ne.2 (by omega)
  go_enter Try.func28, Try.ntmps28
  go_wp2_with fail
  go_ret
  refine ⟨?_, hbel⟩
  rw [plc_eq k n h0 (by omega)]
  rfl
set_option maxHeartbeats 1600000 in
theorem rnew_ok (r : Nat) (h0 : 1 ≤ r) (h1 : r ≤ 4096) (w : World) : Calls Try.prog 13 #[.int .i64 (r : Nat)] w fun e w' => e = .returned (.tuple #[qv r none 0 0, .int .i64 0]) ∧ Below w.heap.size w w' := by
  unfold qv
  have hbel : Below w.heap.size w (w.alloc (.cells #[.int .i64 (r : Nat), .slice none 0 0] 44)) := (Below.refl _ _).alloc (Nat.le_refl _) _
  obtain ⟨x0, x1⟩ := box2 w (.int .i64 (r : Nat)) (.slice none 0 0) 44
  go_enter Try.func13, Try.ntmps13
  go_wp2_with fail
  exact bodyPost_ret (v := .tuple #[.agg #[.int .i64 (r : Nat), .slice none 0 0], .int .i64 0]) (by simp [results, Try.results13, go_sem, x0, x1]) rfl ⟨rfl, hbel⟩
set_option maxHeartbeats 1600000 in
theorem rnew_no (r : Int) (h0 : r < 1 ∨ 4096 < r) (w : World) : Calls Try.prog 13 #[.int .i64 r] w fun e w' => e = .returned (.tuple #[qv 0 none 0 0, .int .i64 1]) ∧ Below w.heap.size w w' := by
  unfold qv
  have hbel : Below w.heap.size w (w.alloc (.cells #[.int .i64 0, .slice none 0 0] 44)) := (Below.refl _ _).alloc (Nat.le_refl _) _
  obtain ⟨x0, x1⟩ := box2 w (.int .i64 0) (.slice none 0 0) 44
  rcases h0 with h0 | h0
  · go_enter Try.func13, Try.ntmps13
    go_wp2_with fail
    exact bodyPost_ret (v := .tuple #[.agg #[.int .i64 0, .slice none 0 0], .int .i64 1]) (by simp [results, Try.results13, go_sem, x0, x1]) rfl ⟨rfl, hbel⟩
  · have h1 : ¬ r < 1 := by omega
    go_enter Try.func13, Try.ntmps13
    go_wp2_with fail
    exact bodyPost_ret (v := .tuple #[.agg #[.int .i64 0, .slice none 0 0], .int .i64 1]) (by simp [results, Try.results13, go_sem, x0, x1]) rfl ⟨rfl, hbel⟩
theorem ct_take (L : List Lt) (i : Nat) (f t x y : Int) (s : ByteArray) (h : L[i]? = some (f, t, s)) : ct (L.take (i + 1)) x y = ct (L.take i) x y + if f = x ∧ t = y then 1 else 0 := by
  unfold ct
  rw [List.take_add_one, h, List.countP_append]
  simp [List.countP_cons]
set_option maxRecDepth 100000 in
set_option maxHeartbeats 3200000 in
theorem rbetween_ok {w : World} {N : Nat → Prop} {a : Option Addr} {c most : Nat} {L : List Lt} (h : Rd w N a c L) (hL : L.length ≤ 1000000) (x y : Int) :
    Calls Try.prog 25 #[qv most a L.length c, .int .i64 x, .int .i64 y] w fun e w' => e = .returned (.int .i64 (ct L x y : Nat)) ∧ Below w.heap.size w w' := by
  unfold qv
  have hbel : Below w.heap.size w (w.alloc (.cells #[.int .i64 (most : Nat), .slice a L.length c] 44)) := (Below.refl _ _).alloc (Nat.le_refl _) _
  obtain ⟨x0, x1⟩ := box2 w (.int .i64 (most : Nat)) (.slice a L.length c) 44
  have hR := Lib.hid (h.below hbel)
  obtain ⟨q, hq⟩ : ∃ q, q = L.length := ⟨_, rfl⟩
  have HQ := Lib.hid hq
  rw [← hq] at hL hbel x0 x1 ⊢
  rw [← hq] at hR
  clear hq h
  go_enter Try.func25, Try.ntmps25
  go_wp2_with fail
  generalize w.alloc (.cells #[.int .i64 (most : Nat), .slice a q c] 44) = w1 at *
  go_loop [7, 8] (fun s i => ∃ k : Nat, k ≤ q ∧ i = .int .i64 k ∧ s = .int .i64 (ct (L.take k) x y : Nat)) (fun _ i => q - (intOf i).toNat)
  case atStart => exact ⟨0, by omega, rfl, rfl⟩
  case round =>
    obtain ⟨k, hk, rfl, rfl⟩ := hrel
    by_cases hlt : k < q
    · have hk1 : (k : Int) < (q : Int) := by omega
      have k0 : (0 : Int) ≤ (k : Int) := by omega
      obtain ⟨⟨f, t, s⟩, hget⟩ : ∃ l, L[k]? = some l := ⟨_, List.getElem?_eq_getElem (by rw [← HQ.out]; exact hlt)⟩
      obtain ⟨b, rfl, _, _, z0, z1, z2⟩ := hR.out.get hget
      have hct := Lib.hid (ct_take L k f t x y s hget)
      have hle := ct_le (L.take k) x y
      rw [List.length_take] at hle
      have hle2 : ct (L.take k) x y ≤ 1000000 := by omega
      clear hle hget
      generalize ct (L.take k) x y = n at *
      by_cases hf : f = x
      · subst hf
        by_cases ht : t = y
        · subst ht
          go_wp2_with fail
          go_round
          case rel => exact ⟨k + 1, by omega, i64_eq (by omega), by rw [hct.out]; exact i64_eq (by simp)⟩
          case measure => simp [intOf]; omega
        · have hd : (t == y) = false := beq_eq_false_iff_ne.2 ht
          go_wp2_with fail
          go_round
          case rel => exact ⟨k + 1, by omega, i64_eq (by omega), by rw [hct.out]; exact i64_eq (by simp [ht])⟩
          case measure => simp [intOf]; omega
      · have hd : (f == x) = false := beq_eq_false_iff_ne.2 hf
        go_wp2_with fail
        go_round
        case rel => exact ⟨k + 1, by omega, i64_eq (by omega), by rw [hct.out]; exact i64_eq (by simp [hf])⟩
        case measure => simp [intOf]; omega
    · obtain rfl : k = q := by omega
      have hte : L.take k = L := List.take_of_length_le (by rw [← HQ.out]; omega)
      rw [hte]
      go_wp2_with fail
      go_ret
      exact ⟨rfl, hbel⟩
end Go.Proofs.Ytflaghnbbfdamaa
