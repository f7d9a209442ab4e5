/-
  Disks.
-/
import Derived.Test.YtgcghdinccdphaaRows
import Derived.WalkKit
import Derived.Below
import Derived.Outline
import Derived.Lib.Hide
import Derived.RegionTactic
import Derived.BigRegion
import Derived.RegionCalls
import Derived.Deep.QuietTactic
import Derived.BigQuiet
import Derived.Deep.RegionWith
import Derived.LoopTactic
import Derived.Deep.LoopGhost
import Derived.Deep.DeepCutAuto
import Derived.Lib.AppendStr
import Derived.Laws.Tables
namespace Go.Proofs.Ytgcghdinccdphaa
open Go.RowKit

/-- the cells of a new disk -/
def newCells (r : Int) : Array Value := (Value.int .i64 r :: (List.replicate 256 [Value.slice none 0 0, Value.int .i64 0]).flatten).toArray
theorem built_new (r : Int) : Try.prog.built 59 [(0, .int .i64 r)] = some (newCells r) := by kernel_rfl
theorem built_zero : Try.prog.built 59 [] = some (newCells 0) := by kernel_rfl
theorem wpList_new {ops : Array Oper} {rest : List Oper} {o : Oper} {a : Act} {w : World} {Q : Exit → Act → World → Prop} (hg : o.guard = none) (x : Operand) (ho : o.op = .build 59 #[(0, x)]) (r : Int) (hx : a.eval x = .int .i64 r)
    (h : wpList Try.prog ops Q rest (a.put o.dst (.agg (newCells r))) w) : wpList Try.prog ops Q (o :: rest) a w := by
  have e : (#[(0, x)].map fun (p : Nat × Operand) => (p.1, a.eval p.2)).toList = [(0, .int .i64 r)] := by simp [hx]
  refine wpList_build hg 59 _ ho ?_ ?_
  · rw [e, built_new]; rfl
  · rw [e, built_new]; exact h
theorem wpList_zero {ops : Array Oper} {rest : List Oper} {o : Oper} {a : Act} {w : World} {Q : Exit → Act → World → Prop} (hg : o.guard = none) (ho : o.op = .build 59 #[])
    (h : wpList Try.prog ops Q rest (a.put o.dst (.agg (newCells 0))) w) : wpList Try.prog ops Q (o :: rest) a w := by
  have e : ((#[] : Array (Nat × Operand)).map fun (p : Nat × Operand) => (p.1, a.eval p.2)).toList = [] := by simp
  refine wpList_build hg 59 _ ho ?_ ?_
  · rw [e, built_zero]; rfl
  · rw [e, built_zero]; exact h

set_option maxRecDepth 100000 in
set_option maxHeartbeats 1600000 in
theorem new_ok (r : Nat) (h0 : 1 ≤ r) (h1 : r ≤ 16777216) (w : World) :
    Calls Try.prog 8 #[.int .i64 r] w fun e w' => e = .returned (.tuple #[.pointer (some ⟨w.heap.size, 0, none⟩), .int .i64 0]) ∧ w.alloc (.cells (newCells r) 59) = w' := by
  go_enter Try.func8, Try.ntmps8
  go_wp2_with (refine wpList_new rfl _ rfl r rfl ?_)
  go_ret2
  exact ⟨rfl, rfl⟩
theorem new_no (r : Int) (h0 : r < 1 ∨ 16777216 < r) (w : World) :
    Calls Try.prog 8 #[.int .i64 r] w fun e w' => e = .returned (.tuple #[.pointer none, .int .i64 1]) ∧ w = w' := by
  rcases h0 with h0 | h0
  · go_enter Try.func8, Try.ntmps8
    go_wp2_with fail
    go_ret2
    exact ⟨rfl, rfl⟩
  · have h1 : ¬ r < 1 := by omega
    go_enter Try.func8, Try.ntmps8
    go_wp2_with fail
    go_ret2
    exact ⟨rfl, rfl⟩

theorem i64_eq {a b : Int} (h : a = b) : Value.int .i64 a = .int .i64 b := by rw [h]
/-! ### a disk in memory -/
/-- another value at one place -/
def upd {α : Type} (F : Nat → α) (k : Nat) (x : α) : Nat → α := fun i => if i = k then x else F i
theorem upd_same {α : Type} (F : Nat → α) (k : Nat) (x : α) : upd F k x k = x := by simp [upd]
theorem upd_other {α : Type} (F : Nat → α) (k i : Nat) (x : α) (h : i ≠ k) : upd F k x i = F i := by simp [upd, h]
theorem upd_self {α : Type} (F : Nat → α) (k : Nat) : upd F k (F k) = F := by
  funext i; unfold upd; split <;> simp_all
/-- a file's bytes as cells -/
def cellsOf (l : List UInt8) : List Value := l.map fun b => .int .u8 b.toNat
theorem cellsOf_length (l : List UInt8) : (cellsOf l).length = l.length := by simp [cellsOf]
theorem cellsOf_append (l m : List UInt8) : cellsOf l ++ cellsOf m = cellsOf (l ++ m) := by simp [cellsOf]
theorem cellsOf_str (s : ByteArray) : Lib.strCells s = cellsOf s.data.toList := rfl
/-- how many bytes the first n files have -/
def total (F : Nat → List UInt8) : Nat → Nat
  | 0 => 0
  | n + 1 => total F n + (F n).length
theorem total_mono (F : Nat → List UInt8) {i j : Nat} (h : i ≤ j) : total F i ≤ total F j := by
  induction j with
  | zero => obtain rfl : i = 0 := by omega
            exact Nat.le_refl _
  | succ j ih =>
    rcases Nat.lt_or_ge j i with h1 | h1
    · obtain rfl : i = j + 1 := by omega
      exact Nat.le_refl _
    · have := ih h1
      show _ ≤ total F j + (F j).length
      omega
theorem total_one (F : Nat → List UInt8) {k n : Nat} (h : k < n) : (F k).length ≤ total F n := by
  have := total_mono F (show k + 1 ≤ n by omega)
  have e : total F (k + 1) = total F k + (F k).length := rfl
  omega
theorem total_upd (F : Nat → List UInt8) (k n : Nat) (l : List UInt8) : total (upd F k l) n + (if k < n then (F k).length else 0) = total F n + (if k < n then l.length else 0) := by
  induction n with
  | zero => simp [total]
  | succ n ih =>
    have e1 : total (upd F k l) (n + 1) = total (upd F k l) n + (upd F k l n).length := rfl
    have e2 : total F (n + 1) = total F n + (F n).length := rfl
    rw [e1, e2]
    by_cases h : n = k
    · subst h
      rw [upd_same]
      simp only [Nat.lt_irrefl, if_false, Nat.lt_succ_self, if_true] at ih ⊢
      omega
    · rw [upd_other _ _ _ _ h]
      by_cases h2 : k < n
      · rw [if_pos h2, if_pos h2] at ih
        rw [if_pos (by omega), if_pos (by omega)]
        omega
      · rw [if_neg h2, if_neg h2] at ih
        rw [if_neg (by omega), if_neg (by omega)]
        omega
theorem total_congr (F G : Nat → List UInt8) (n : Nat) (h : ∀ k, k < n → (F k).length = (G k).length) : total F n = total G n := by
  induction n with
  | zero => rfl
  | succ n ih =>
    show total F n + (F n).length = total G n + (G n).length
    rw [ih (fun k hk => h k (by omega)), h n (by omega)]
theorem total_le (F G : Nat → List UInt8) (n : Nat) (h : ∀ k, k < n → (F k).length ≤ (G k).length) : total F n ≤ total G n := by
  induction n with
  | zero => exact Nat.le_refl _
  | succ n ih =>
    have := ih (fun k hk => h k (by omega))
    have := h n (by omega)
    show total F n + (F n).length ≤ total G n + (G n).length
    omega

/-- what is not the disk's stands -/
structure Kept (N : Nat → Prop) (w w' : World) : Prop where
  os : w'.os = w.os
  tape : w'.tape = w.tape
  output : w'.output = w.output
  size : w.heap.size ≤ w'.heap.size
  block : ∀ b, N b → w'.heap[b]? = w.heap[b]?
theorem Kept.refl (N : Nat → Prop) (w : World) : Kept N w w := ⟨rfl, rfl, rfl, Nat.le_refl _, fun _ _ => rfl⟩
theorem Kept.trans {N : Nat → Prop} {a b c : World} (h : Kept N a b) (k : Kept N b c) : Kept N a c :=
  ⟨k.os.trans h.os, k.tape.trans h.tape, k.output.trans h.output, Nat.le_trans h.size k.size, fun x hx => (k.block x hx).trans (h.block x hx)⟩
theorem Kept.drewN {N : Nat → Prop} {a b : World} (h : Kept N a b) (n : Nat) : Kept N a (b.drewN n) := ⟨h.os, h.tape, h.output, h.size, h.block⟩
theorem Kept.drew {N : Nat → Prop} {a b : World} (h : Kept N a b) : Kept N a b.drew := ⟨h.os, h.tape, h.output, h.size, h.block⟩
theorem Kept.less {N N' : Nat → Prop} {a b : World} (h : Kept N a b) (hN : ∀ x, N' x → N x) : Kept N' a b := ⟨h.os, h.tape, h.output, h.size, fun x hx => h.block x (hN x hx)⟩
theorem Kept.below {N : Nat → Prop} {a b : World} {B : Nat} (h : Kept N a b) (hN : ∀ x, x < B → N x) : Below B a b := ⟨h.os, h.tape, h.output, h.size, fun x hx => h.block x (hN x hx)⟩
theorem Kept.of_below {N : Nat → Prop} {a b : World} {B : Nat} (h : Below B a b) (hN : ∀ x, N x → x < B) : Kept N a b := ⟨h.os, h.tape, h.output, h.size, fun x hx => h.block x (hN x hx)⟩
theorem Kept.setCell {N : Nat → Prop} {a b : World} (h : Kept N a b) {p : Addr} (hp : ¬ N p.block) (u : Value) : Kept N a (b.setCell p u) :=
  ⟨h.os, h.tape, h.output, by simpa [World.setCell] using h.size, fun x hx => (Below.heap_setCell b p u x (fun e => hp (e ▸ hx))).trans (h.block x hx)⟩
theorem Kept.grown {N : Nat → Prop} {a b c : World} {row : Option Nat} (h : Kept N a b) (hg : b.grownBy c row) (hr : ∀ x, row = some x → ¬ N x) (hlt : ∀ x, N x → x < b.heap.size) : Kept N a c :=
  ⟨hg.os.trans h.os, hg.tape.trans h.tape, hg.output.trans h.output, Nat.le_trans h.size hg.size, fun x hx => (hg.block x (hlt x hx) (fun e => hr x e.symm hx)).trans (h.block x hx)⟩

/-- a disk of the program: block g; file k has the bytes F k, of which S k are sure; N: blocks that are not the disk's -/
structure Dk (w : World) (g : Nat) (N : Nat → Prop) (V : Nat → Value) (r : Nat) (F : Nat → List UInt8) (S : Nat → Nat) : Prop where
  room : w.cell? ⟨g, 0, none⟩ = some (.int .i64 r)
  byt : ∀ k, k < 256 → w.cell? ⟨g, 1 + k * 2, none⟩ = some (V k)
  sur : ∀ k, k < 256 → w.cell? ⟨g, 1 + k * 2 + 1, none⟩ = some (.int .i64 (S k : Nat))
  free : ∀ o, w.frozen? ⟨g, o, none⟩ = false
  own : ∀ k, k < 256 → w.ownsRow (g + 1) 5 1 (V k) (F k).length (cellsOf (F k))
  apart : ∀ i j, i < 256 → j < 256 → i ≠ j → (V i).ownBlock = none ∨ (V i).ownBlock ≠ (V j).ownBlock
  mine : ¬ N g
  mines : ∀ k b, k < 256 → (V k).ownBlock = some b → ¬ N b
  lt : ∀ b, N b → b < w.heap.size
  sure : ∀ k, k < 256 → S k ≤ (F k).length
  fits : total F 256 ≤ r
  r1 : 1 ≤ r
  r2 : r ≤ 16777216
/-- .. whatever its slices are -/
def Disk (w : World) (g : Nat) (N : Nat → Prop) (r : Nat) (F : Nat → List UInt8) (S : Nat → Nat) : Prop := ∃ V, Dk w g N V r F S

theorem cell_lt {w : World} {p : Addr} {v : Value} (h : w.cell? p = some v) : p.block < w.heap.size := by
  rcases Nat.lt_or_ge p.block w.heap.size with hlt | hge
  · exact hlt
  · unfold World.cell? at h
    rw [Array.getElem?_eq_none hge] at h
    cases h
theorem own_lt {w : World} {B : Nat} {e : TypeId} {size n : Nat} {v : Value} {xs : List Value} (h : w.ownsRow B e size v n xs) : ∀ b, v.ownBlock = some b → B ≤ b ∧ b < w.heap.size := World.ownsRow.lt h
theorem own_move {w w' : World} {B : Nat} {e : TypeId} {size n : Nat} {v : Value} {xs : List Value} (h : w.ownsRow B e size v n xs) (hb : ∀ b, v.ownBlock = some b → w'.heap[b]? = w.heap[b]?) : w'.ownsRow B e size v n xs := by
  refine ⟨h.1, ?_⟩
  rcases h.2 with h2 | ⟨g, cap, cur, hv, hg, hh, r⟩
  · exact .inl h2
  · exact .inr ⟨g, cap, cur, hv, hg, (hb g (by rw [hv]; rfl)).trans hh, r⟩
section
variable {w w' : World} {g r : Nat} {N N' : Nat → Prop} {V : Nat → Value} {F : Nat → List UInt8} {S : Nat → Nat}
theorem Dk.glt (h : Dk w g N V r F S) : g < w.heap.size := cell_lt h.room
theorem Dk.len (h : Dk w g N V r F S) {k : Nat} (hk : k < 256) : (F k).length ≤ r := Nat.le_trans (total_one F hk) h.fits
theorem Dk.slice (h : Dk w g N V r F S) {k : Nat} (hk : k < 256) : ∃ a c, V k = .slice a (F k).length c ∧ (F k).length ≤ c ∧ c ≤ maxLen ∧
    ((a = none ∧ c = 0 ∧ (F k).length = 0) ∨ ∃ b, a = some ⟨b, 0, none⟩ ∧ w.ownsRow (g + 1) 5 1 (.slice (some ⟨b, 0, none⟩) (F k).length c) (F k).length (cellsOf (F k))) := by
  have ho := h.own k hk
  rcases ho.2 with ⟨h1, h2⟩ | ⟨b, cap, cur, h1, h2, h3, h4, h5, _⟩
  · exact ⟨none, 0, by rw [h2]; exact h1, by omega, by omega, .inl ⟨rfl, rfl, h2⟩⟩
  · exact ⟨some ⟨b, 0, none⟩, cap, h1, h4, h5, .inr ⟨b, rfl, by rw [← h1]; exact ho⟩⟩
/-- other blocks turn -/
theorem Dk.other (h : Dk w g N V r F S) (hsz : w.heap.size ≤ w'.heap.size) (hb : ∀ b, b < w.heap.size → ¬ N b → w'.heap[b]? = w.heap[b]?) : Dk w' g N V r F S := by
  have hg := hb g h.glt h.mine
  refine ⟨(World.cell?_of_block (a := ⟨g, 0, none⟩) hg).trans h.room, fun k hk => (World.cell?_of_block (a := ⟨g, _, none⟩) hg).trans (h.byt k hk), fun k hk => (World.cell?_of_block (a := ⟨g, _, none⟩) hg).trans (h.sur k hk),
    fun o => (World.frozen?_of_block (a := ⟨g, o, none⟩) hg).trans (h.free o), fun k hk => own_move (h.own k hk) (fun b e => hb b (own_lt (h.own k hk) b e).2 (h.mines k b hk e)), h.apart, h.mine, h.mines,
    fun b hN => Nat.lt_of_lt_of_le (h.lt b hN) hsz, h.sure, h.fits, h.r1, h.r2⟩
/-- more blocks, or fewer, are not the disk's -/
theorem Dk.rest (h : Dk w g N V r F S) (hN : ∀ b, N' b → N b ∨ (b ≠ g ∧ ∀ k, k < 256 → (V k).ownBlock ≠ some b) ) (hlt : ∀ b, N' b → b < w.heap.size) : Dk w g N' V r F S :=
  ⟨h.room, h.byt, h.sur, h.free, h.own, h.apart, fun e => (hN g e).elim h.mine (fun h1 => h1.1 rfl),
    fun k b hk e e2 => (hN b e2).elim (h.mines k b hk e) (fun h1 => h1.2 k hk e), hlt, h.sure, h.fits, h.r1, h.r2⟩
theorem Disk.less (h : Disk w g N r F S) (hN : ∀ b, N' b → N b) : Disk w g N' r F S := by
  obtain ⟨V, h⟩ := h
  exact ⟨V, h.rest (fun b hb => .inl (hN b hb)) (fun b hb => h.lt b (hN b hb))⟩
/-- new blocks of others -/
theorem Disk.below (h : Disk w g N r F S) (hb : Below w.heap.size w w') : Disk w' g (fun b => N b ∨ (w.heap.size ≤ b ∧ b < w'.heap.size)) r F S := by
  obtain ⟨V, h⟩ := h
  have h1 : Dk w' g N V r F S := h.other hb.size (fun b hlt _ => hb.block b hlt)
  refine ⟨V, h1.rest (fun b hb2 => ?_) (fun b hb2 => ?_)⟩
  · rcases hb2 with hb2 | ⟨hb2, _⟩
    · exact .inl hb2
    · refine .inr ⟨fun e => ?_, fun k hk e => ?_⟩
      · have := h.glt; omega
      · have := (own_lt (h.own k hk) b e).2; omega
  · rcases hb2 with hb2 | ⟨_, hb2⟩
    · exact h1.lt b hb2
    · exact hb2
/-- a store into a block that is not the disk's -/
theorem Disk.store (h : Disk w g N r F S) {p : Addr} (hp : N p.block) (u : Value) : Disk (w.setCell p u) g N r F S := by
  obtain ⟨V, h⟩ := h
  exact ⟨V, h.other (by simp [World.setCell]) (fun b _ hN => Below.heap_setCell w p u b (fun e => hN (e ▸ hp)))⟩
theorem Disk.drewN (h : Disk w g N r F S) (n : Nat) : Disk (w.drewN n) g N r F S := by
  obtain ⟨V, h⟩ := h
  exact ⟨V, h.other (Nat.le_refl _) (fun _ _ _ => rfl)⟩
theorem Disk.drew (h : Disk w g N r F S) : Disk w.drew g N r F S := by
  obtain ⟨V, h⟩ := h
  exact ⟨V, h.other (Nat.le_refl _) (fun _ _ _ => rfl)⟩
theorem Disk.lt (h : Disk w g N r F S) : ∀ b, N b → b < w.heap.size := by obtain ⟨V, h⟩ := h; exact h.lt
theorem Disk.glt (h : Disk w g N r F S) : g < w.heap.size := by obtain ⟨V, h⟩ := h; exact h.glt
theorem Disk.fits (h : Disk w g N r F S) : total F 256 ≤ r := by obtain ⟨V, h⟩ := h; exact h.fits
theorem Disk.r2 (h : Disk w g N r F S) : r ≤ 16777216 := by obtain ⟨V, h⟩ := h; exact h.r2
theorem Disk.len (h : Disk w g N r F S) {k : Nat} (hk : k < 256) : (F k).length ≤ r := by obtain ⟨V, h⟩ := h; exact h.len hk
theorem Disk.sure (h : Disk w g N r F S) {k : Nat} (hk : k < 256) : S k ≤ (F k).length := by obtain ⟨V, h⟩ := h; exact h.sure k hk
end

theorem nc_len : (List.replicate 256 [Value.slice none 0 0, Value.int .i64 0]).flatten.length = 512 := by decide +kernel
theorem rep_get (n k : Nat) (x y : Value) (h : k < n) : (List.replicate n [x, y]).flatten[k * 2]? = some x ∧ (List.replicate n [x, y]).flatten[k * 2 + 1]? = some y := by
  induction n generalizing k with
  | zero => omega
  | succ n ih =>
    rw [List.replicate_succ, List.flatten_cons]
    cases k with
    | zero => exact ⟨rfl, rfl⟩
    | succ k =>
      have := ih k (by omega)
      rw [show (k + 1) * 2 = k * 2 + 2 by omega]
      simpa using this
/-- a new disk -/
theorem Disk.new (w : World) (r : Nat) (h1 : 1 ≤ r) (h2 : r ≤ 16777216) : Disk (w.alloc (.cells (newCells r) 59)) w.heap.size (fun b => b < w.heap.size) r (fun _ => []) (fun _ => 0) := by
  have hh : (w.alloc (.cells (newCells r) 59)).heap[w.heap.size]? = some (.cells (newCells r) 59 (0, 0)) := heap_alloc_new w _
  refine ⟨fun _ => .slice none 0 0, ⟨?_, fun k hk => ?_, fun k hk => ?_, fun o => ?_, fun k _ => ⟨rfl, .inl ⟨rfl, rfl⟩⟩, fun _ _ _ _ _ => .inl rfl, by simp, fun k b _ e => (by cases e), fun b hb => ?_, fun _ _ => Nat.le_refl _, ?_, h1, h2⟩⟩
  · rw [cell_of_row _ _ _ _ _ _ hh]
    simp only [newCells, List.getElem?_toArray, List.getElem?_cons_zero]
  · rw [cell_of_row _ _ _ _ _ _ hh]
    simp only [newCells, List.getElem?_toArray]
    rw [show 1 + k * 2 = k * 2 + 1 by omega, List.getElem?_cons_succ]
    exact (rep_get 256 k _ _ hk).1
  · rw [cell_of_row _ _ _ _ _ _ hh]
    simp only [newCells, List.getElem?_toArray]
    rw [show 1 + k * 2 + 1 = (k * 2 + 1) + 1 by omega, List.getElem?_cons_succ]
    exact (rep_get 256 k _ _ hk).2
  · exact frozen_of_row _ _ _ _ _ hh
  · simp; omega
  · have e : ∀ n, total (fun _ => ([] : List UInt8)) n = 0 := fun n => by induction n with | zero => rfl | succ n ih => exact ih
    rw [e]; omega
end Go.Proofs.Ytgcghdinccdphaa
