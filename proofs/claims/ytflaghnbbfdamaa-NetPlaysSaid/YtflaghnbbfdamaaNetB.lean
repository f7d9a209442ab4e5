/-
  A net in memory: its cells, its letters' row, its map. New, given, way, Len, Between, place.
-/
import Derived.Test.YtflaghnbbfdamaaNetA
namespace Go.Proofs.Ytflaghnbbfdamaa
open Go.RowKit

theorem i64_eq {a b : Int} (h : a = b) : Value.int .i64 a = .int .i64 b := by rw [h]
structure Kept (N : Nat → Prop) (w w' : World) : Prop where
  os : w'.os = w.os
  tape : w'.tape = w.tape
  output : w'.output = w.output
  size : w.heap.size ≤ w'.heap.size
  block : ∀ b, N b → w'.heap[b]? = w.heap[b]?
theorem Kept.refl (N : Nat → Prop) (w : World) : Kept N w w := ⟨rfl, rfl, rfl, Nat.le_refl _, fun _ _ => rfl⟩
theorem Kept.trans {N : Nat → Prop} {a b c : World} (h : Kept N a b) (k : Kept N b c) : Kept N a c :=
  ⟨k.os.trans h.os, k.tape.trans h.tape, k.output.trans h.output, Nat.le_trans h.size k.size, fun x hx => (k.block x hx).trans (h.block x hx)⟩
theorem Kept.drewN {N : Nat → Prop} {a b : World} (h : Kept N a b) (n : Nat) : Kept N a (b.drewN n) := ⟨h.os, h.tape, h.output, h.size, h.block⟩
theorem Kept.drew {N : Nat → Prop} {a b : World} (h : Kept N a b) : Kept N a b.drew := ⟨h.os, h.tape, h.output, h.size, h.block⟩
theorem Kept.less {N N' : Nat → Prop} {a b : World} (h : Kept N a b) (hN : ∀ x, N' x → N x) : Kept N' a b := ⟨h.os, h.tape, h.output, h.size, fun x hx => h.block x (hN x hx)⟩
theorem Kept.below {N : Nat → Prop} {a b : World} {B : Nat} (h : Kept N a b) (hN : ∀ x, x < B → N x) : Below B a b := ⟨h.os, h.tape, h.output, h.size, fun x hx => h.block x (hN x hx)⟩
theorem Kept.of_below {N : Nat → Prop} {a b : World} {B : Nat} (h : Below B a b) (hN : ∀ x, N x → x < B) : Kept N a b := ⟨h.os, h.tape, h.output, h.size, fun x hx => h.block x (hN x hx)⟩
theorem Kept.setCell {N : Nat → Prop} {a b : World} (h : Kept N a b) {p : Addr} (hp : ¬ N p.block) (u : Value) : Kept N a (b.setCell p u) :=
  ⟨h.os, h.tape, h.output, by simpa [World.setCell] using h.size, fun x hx => (Below.heap_setCell b p u x (fun e => hp (e ▸ hx))).trans (h.block x hx)⟩
theorem Kept.grown {N : Nat → Prop} {a b c : World} {row : Option Nat} (h : Kept N a b) (hg : b.grownBy c row) (hr : ∀ x, row = some x → ¬ N x) (hlt : ∀ x, N x → x < b.heap.size) : Kept N a c :=
  ⟨hg.os.trans h.os, hg.tape.trans h.tape, hg.output.trans h.output, Nat.le_trans h.size hg.size, fun x hx => (hg.block x (hlt x hx) (fun e => hr x e.symm hx)).trans (h.block x hx)⟩

/-- a disk of the program: block g; file k has the bytes F k, of which S k are sure; N: blocks that are not the disk's -/
theorem cell_lt {w : World} {p : Addr} {v : Value} (h : w.cell? p = some v) : p.block < w.heap.size := by
  rcases Nat.lt_or_ge p.block w.heap.size with hlt | hge
  · exact hlt
  · unfold World.cell? at h
    rw [Array.getElem?_eq_none hge] at h
    cases h
theorem own_lt {w : World} {B : Nat} {e : TypeId} {size n : Nat} {v : Value} {xs : List Value} (h : w.ownsRow B e size v n xs) : ∀ b, v.ownBlock = some b → B ≤ b ∧ b < w.heap.size := World.ownsRow.lt h
theorem own_move {w w' : World} {B : Nat} {e : TypeId} {size n : Nat} {v : Value} {xs : List Value} (h : w.ownsRow B e size v n xs) (hb : ∀ b, v.ownBlock = some b → w'.heap[b]? = w.heap[b]?) : w'.ownsRow B e size v n xs := by
  refine ⟨h.1, ?_⟩
  rcases h.2 with h2 | ⟨g, cap, cur, hv, hg, hh, r⟩
  · exact .inl h2
  · exact .inr ⟨g, cap, cur, hv, hg, (hb g (by rw [hv]; rfl)).trans hh, r⟩

abbrev Lt := Int × Int × ByteArray
/-- the cells of letters -/
def lets : List Lt → List Value
  | [] => []
  | l :: r => .int .i64 l.1 :: .int .i64 l.2.1 :: .string l.2.2 :: lets r
theorem lets_length (L : List Lt) : (lets L).length = L.length * 3 := by
  induction L with
  | nil => rfl
  | cons l r ih => simp [lets, ih]; omega
theorem lets_append (L M : List Lt) : lets (L ++ M) = lets L ++ lets M := by
  induction L with
  | nil => rfl
  | cons l r ih => simp [lets, ih]
theorem lets_get (L : List Lt) (i : Nat) (l : Lt) (h : L[i]? = some l) : (lets L)[i * 3]? = some (.int .i64 l.1) ∧ (lets L)[i * 3 + 1]? = some (.int .i64 l.2.1) ∧ (lets L)[i * 3 + 2]? = some (.string l.2.2) := by
  induction L generalizing i with
  | nil => simp at h
  | cons a r ih =>
    cases i with
    | zero => simp at h; subst h; simp [lets]
    | succ i =>
      have := ih i (by simpa using h)
      rw [show (i + 1) * 3 = i * 3 + 3 by omega]
      simpa [lets] using this
/-- how many from whom to whom -/
def ct (L : List Lt) (f t : Int) : Nat := L.countP (fun l => decide (l.1 = f) && decide (l.2.1 = t))
structure Good (l : Lt) : Prop where
  f0 : 0 ≤ l.1
  f1 : l.1 ≤ 255
  t0 : 0 ≤ l.2.1
  t1 : l.2.1 ≤ 255
  b1 : l.2.2.size ≤ 1048576

structure Nx (w : World) (g : Nat) (N : Nat → Prop) (V : Value) (m most n : Nat) (L : List Lt) : Prop where
  c0 : w.cell? ⟨g, 0, none⟩ = some (.int .i64 (most : Nat))
  c1 : w.cell? ⟨g, 1, none⟩ = some V
  c2 : w.cell? ⟨g, 2, none⟩ = some (.map (some m))
  free : ∀ o, w.frozen? ⟨g, o, none⟩ = false
  row : w.ownsRow (g + 1) 30 3 V L.length (lets L)
  mp : Mp w m n (fun f t => ((ct L f t : Nat) : Int))
  mg : m < g
  mine : ¬ N g
  minem : ¬ N m
  mines : ∀ b, V.ownBlock = some b → ¬ N b
  lt : ∀ b, N b → b < w.heap.size
  most1 : 1 ≤ most
  most2 : most ≤ 4096
  good : ∀ l ∈ L, Good l
/-- a net in block g, n: the map has at most so many entries; N: blocks that are not the net's -/
def Net (w : World) (g : Nat) (N : Nat → Prop) (most n : Nat) (L : List Lt) : Prop := ∃ V m, Nx w g N V m most n L
section
variable {w w' : World} {g m most n : Nat} {N N' : Nat → Prop} {V : Value} {L : List Lt}
theorem Nx.glt (h : Nx w g N V m most n L) : g < w.heap.size := cell_lt h.c0
theorem Nx.slice (h : Nx w g N V m most n L) : ∃ a c, V = .slice a L.length c ∧ L.length ≤ c ∧ c ≤ maxLen ∧
    ((a = none ∧ c = 0 ∧ L.length = 0) ∨ ∃ b, a = some ⟨b, 0, none⟩) := by
  rcases h.row.2 with ⟨h1, h2⟩ | ⟨b, cap, cur, h1, h2, h3, h4, h5, _⟩
  · exact ⟨none, 0, by rw [h2]; exact h1, by omega, by omega, .inl ⟨rfl, rfl, h2⟩⟩
  · exact ⟨some ⟨b, 0, none⟩, cap, h1, h4, h5, .inr ⟨b, rfl⟩⟩
theorem Nx.ne (h : Nx w g N V m most n L) : ∀ b, V.ownBlock = some b → b ≠ g ∧ b ≠ m ∧ b < w.heap.size := fun b e => by
  have := own_lt h.row b e
  have := h.mg
  omega
/-- other blocks turn -/
theorem Nx.other (h : Nx w g N V m most n L) (hsz : w.heap.size ≤ w'.heap.size) (hb : ∀ b, b < w.heap.size → ¬ N b → w'.heap[b]? = w.heap[b]?) : Nx w' g N V m most n L := by
  have hg := hb g h.glt h.mine
  exact ⟨(World.cell?_of_block (a := ⟨g, 0, none⟩) hg).trans h.c0, (World.cell?_of_block (a := ⟨g, 1, none⟩) hg).trans h.c1, (World.cell?_of_block (a := ⟨g, 2, none⟩) hg).trans h.c2,
    fun o => (World.frozen?_of_block (a := ⟨g, o, none⟩) hg).trans (h.free o), own_move h.row (fun b e => hb b (h.ne b e).2.2 (h.mines b e)), h.mp.move (hb m h.mp.lt h.minem), h.mg, h.mine, h.minem, h.mines,
    fun b hN => Nat.lt_of_lt_of_le (h.lt b hN) hsz, h.most1, h.most2, h.good⟩
theorem Nx.rest (h : Nx w g N V m most n L) (hN : ∀ b, N' b → N b ∨ (b ≠ g ∧ b ≠ m ∧ V.ownBlock ≠ some b)) (hlt : ∀ b, N' b → b < w.heap.size) : Nx w g N' V m most n L :=
  ⟨h.c0, h.c1, h.c2, h.free, h.row, h.mp, h.mg, fun e => (hN g e).elim h.mine (fun h1 => h1.1 rfl), fun e => (hN m e).elim h.minem (fun h1 => h1.2.1 rfl),
    fun b e e2 => (hN b e2).elim (h.mines b e) (fun h1 => h1.2.2 e), hlt, h.most1, h.most2, h.good⟩
theorem Net.less (h : Net w g N most n L) (hN : ∀ b, N' b → N b) : Net w g N' most n L := by
  obtain ⟨V, m, h⟩ := h
  exact ⟨V, m, h.rest (fun b hb => .inl (hN b hb)) (fun b hb => h.lt b (hN b hb))⟩
def NN (N : Nat → Prop) (w w' : World) : Nat → Prop := fun x => N x ∨ (w.heap.size ≤ x ∧ x < w'.heap.size)
theorem Nx.below (h : Nx w g N V m most n L) (hb : Below w.heap.size w w') : Nx w' g (NN N w w') V m most n L := by
  have h1 : Nx w' g N V m most n L := h.other hb.size (fun b hlt _ => hb.block b hlt)
  refine h1.rest (fun b hb2 => ?_) (fun b hb2 => ?_)
  · rcases hb2 with hb2 | ⟨hb2, _⟩
    · exact .inl hb2
    · have := h.glt
      have := h.mp.lt
      exact .inr ⟨by omega, by omega, fun e => by have := (h.ne b e).2.2; omega⟩
  · rcases hb2 with hb2 | ⟨_, hb2⟩
    · exact h1.lt b hb2
    · exact hb2
theorem Net.below (h : Net w g N most n L) (hb : Below w.heap.size w w') : Net w' g (NN N w w') most n L := by
  obtain ⟨V, m, h⟩ := h
  exact ⟨V, m, h.below hb⟩
theorem Net.store (h : Net w g N most n L) {p : Addr} (hp : N p.block) (u : Value) : Net (w.setCell p u) g N most n L := by
  obtain ⟨V, m, h⟩ := h
  exact ⟨V, m, h.other (by simp [World.setCell]) (fun b _ hN => Below.heap_setCell w p u b (fun e => hN (e ▸ hp)))⟩
theorem Net.drewN (h : Net w g N most n L) (k : Nat) : Net (w.drewN k) g N most n L := by
  obtain ⟨V, m, h⟩ := h
  exact ⟨V, m, h.other (Nat.le_refl _) (fun _ _ _ => rfl)⟩
theorem Net.drew (h : Net w g N most n L) : Net w.drew g N most n L := by
  obtain ⟨V, m, h⟩ := h
  exact ⟨V, m, h.other (Nat.le_refl _) (fun _ _ _ => rfl)⟩
theorem Net.lt (h : Net w g N most n L) : ∀ b, N b → b < w.heap.size := by obtain ⟨V, m, h⟩ := h; exact h.lt
theorem Net.glt (h : Net w g N most n L) : g < w.heap.size := by obtain ⟨V, m, h⟩ := h; exact h.glt
theorem Net.good (h : Net w g N most n L) : ∀ l ∈ L, Good l := by obtain ⟨V, m, h⟩ := h; exact h.good
theorem Net.most_ (h : Net w g N most n L) : 1 ≤ most ∧ most ≤ 4096 := by obtain ⟨V, m, h⟩ := h; exact ⟨h.most1, h.most2⟩
end

theorem Net.new (w : World) (r : Nat) (h1 : 1 ≤ r) (h2 : r ≤ 4096) : Net ((w.alloc (.map #[] 0)).alloc (.cells #[.int .i64 (r : Nat), .slice none 0 0, .map (some w.heap.size)] 55)) (w.heap.size + 1) (fun b => b < w.heap.size) r 0 [] := by
  have hh : ((w.alloc (.map #[] 0)).alloc (.cells #[.int .i64 (r : Nat), .slice none 0 0, .map (some w.heap.size)] 55)).heap[w.heap.size + 1]? = some (.cells #[.int .i64 (r : Nat), .slice none 0 0, .map (some w.heap.size)] 55 (0, 0)) := by
    have := heap_alloc_new (w.alloc (.map #[] 0)) (.cells #[.int .i64 (r : Nat), .slice none 0 0, .map (some w.heap.size)] 55)
    rw [show (w.alloc (.map #[] 0)).heap.size = w.heap.size + 1 by simp] at this
    exact this
  refine ⟨.slice none 0 0, w.heap.size, by rw [cell_of_row _ _ _ _ _ _ hh]; rfl, by rw [cell_of_row _ _ _ _ _ _ hh]; rfl, by rw [cell_of_row _ _ _ _ _ _ hh]; rfl, fun o => frozen_of_row _ _ _ _ _ hh, ⟨rfl, .inl ⟨rfl, rfl⟩⟩, ?_, by omega, by omega, by omega, fun b e => (by cases e), fun b hb => ?_, h1, h2, fun l hl => by cases hl⟩
  · exact (Mp.new w).move (Below.heap_alloc _ _ _ (by simp))
  · have : b < w.heap.size := hb
    simp; omega

theorem make_map (w : World) : (Instr.makeMap 53 none).run Try.prog w = .ok (.map (some w.heap.size)) (w.alloc (.map #[] 0)) := rfl
set_option maxHeartbeats 1600000 in
theorem new_ok (r : Nat) (h0 : 1 ≤ r) (h1 : r ≤ 4096) (w : World) :
    Calls Try.prog 7 #[.int .i64 (r : Nat)] w fun e w' => e = .returned (.tuple #[.pointer (some ⟨w.heap.size + 1, 0, none⟩), .int .i64 0]) ∧ Net w' (w.heap.size + 1) (fun b => b < w.heap.size) r 0 [] ∧ Below w.heap.size w w' := by
  have hn := Lib.hid (Net.new w r h0 h1)
  have hb : Hid (Below w.heap.size w ((w.alloc (.map #[] 0)).alloc (.cells #[.int .i64 (r : Nat), .slice none 0 0, .map (some w.heap.size)] 55))) := ((Below.refl _ _).alloc (Nat.le_refl _) _).alloc (by simp) _
  have hm := make_map w
  go_enter Try.func7, Try.ntmps7
  go_wp2_with fail
  go_ret2
  exact ⟨rfl, hn.out, hb.out⟩
theorem new_no (r : Int) (h0 : r < 1 ∨ 4096 < r) (w : World) :
    Calls Try.prog 7 #[.int .i64 r] w fun e w' => e = .returned (.tuple #[.pointer none, .int .i64 1]) ∧ w = w' := by
  rcases h0 with h0 | h0
  · go_enter Try.func7, Try.ntmps7
    go_wp2_with fail
    go_ret2
    exact ⟨rfl, rfl⟩
  · have h1 : ¬ r < 1 := by omega
    go_enter Try.func7, Try.ntmps7
    go_wp2_with fail
    go_ret2
    exact ⟨rfl, rfl⟩
theorem given_nil (w : World) : Calls Try.prog 17 #[.pointer none] w fun e w' => e = .returned (.bool false) ∧ w = w' := by
  go_enter Try.func17, Try.ntmps17
  go_wp2_with fail
  go_ret
  exact ⟨rfl, rfl⟩
theorem given_zero (g : Nat) (w : World) (h : w.cell? ⟨g, 0, none⟩ = some (.int .i64 0)) : Calls Try.prog 17 #[.pointer (some ⟨g, 0, none⟩)] w fun e w' => e = .returned (.bool false) ∧ w = w' := by
  go_enter Try.func17, Try.ntmps17
  go_wp2_with fail
  go_ret
  exact ⟨by simp, rfl⟩
theorem given_ok {g most : Nat} {w : World} (h : w.cell? ⟨g, 0, none⟩ = some (.int .i64 (most : Nat))) (h1 : 1 ≤ most) : Calls Try.prog 17 #[.pointer (some ⟨g, 0, none⟩)] w fun e w' => e = .returned (.bool true) ∧ w = w' := by
  go_enter Try.func17, Try.ntmps17
  go_wp2_with fail
  go_ret
  exact ⟨by simp; omega, rfl⟩
end Go.Proofs.Ytflaghnbbfdamaa
