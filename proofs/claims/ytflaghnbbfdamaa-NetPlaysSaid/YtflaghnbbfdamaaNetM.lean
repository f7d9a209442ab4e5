/-
  slices.DeleteFunc at letters, with the function that Cut hands on.
-/
import Derived.Test.YtflaghnbbfdamaaNetL
namespace Go.Proofs.Ytflaghnbbfdamaa
open Go.RowKit

def lz : Lt := (0, 0, ⟨#[]⟩)
theorem lets_zero (k : Nat) (j : Nat) (hj : j < k * 3) : (lets (List.replicate k lz))[j]? = some (#[Value.int .i64 0, .int .i64 0, .string ⟨#[]⟩][j % 3]!) := by
  induction k generalizing j with
  | zero => omega
  | succ k ih =>
    rw [List.replicate_succ]
    match j with
    | 0 => rfl
    | 1 => rfl
    | 2 => rfl
    | j + 3 =>
      have := ih j (by omega)
      rw [Nat.add_mod_right]
      exact this
theorem zeros30 (k : Nat) : (Builtin.zeroCells (Value.agg #[.int .i64 0, .int .i64 0, .string ⟨#[]⟩]).cells k).toList = lets (List.replicate k lz) := by
  apply List.ext_getElem?
  intro j
  unfold Builtin.zeroCells
  have hc : (Value.agg #[.int .i64 0, .int .i64 0, .string ⟨#[]⟩]).cells = #[.int .i64 0, .int .i64 0, .string ⟨#[]⟩] := by first | kernel_rfl | rfl
  rw [hc]
  show ((Array.range (k * 3)).map _).toList[j]? = _
  by_cases hj : j < k * 3
  · rw [lets_zero k j hj]
    simp [hj]
  · rw [List.getElem?_eq_none (by simp; omega), List.getElem?_eq_none (by rw [lets_length, List.length_replicate]; omega)]
theorem clearN (w : World) (b o k c : Nat) (ty : TypeId) (hk : 0 < k) (hc : ∀ j, j < k * 3 → (w.cell? ⟨b, o + j, none⟩).isSome = true) (hf : ∀ j, j < k * 3 → w.frozen? ⟨b, o + j, none⟩ = false) :
    (Builtin.clear_ #[52] ty #[.slice (some ⟨b, o, none⟩) k c]).run Try.prog w = .ok (.tuple #[]) (w.setCells b o (lets (List.replicate k lz))) := by
  have hl : (lets (List.replicate k lz)).length = k * 3 := by rw [lets_length, List.length_replicate]
  have hst := run_storeCells_cells (P := Try.prog) b o (lets (List.replicate k lz)) 0 w (by rw [hl]; simpa using hc) (by rw [hl]; simpa using hf) (lets_one _)
  simp only [Nat.add_zero] at hst
  obtain ⟨q, rfl⟩ : ∃ q, k = q + 1 := ⟨k - 1, by omega⟩
  simp [Builtin.clear_, run_underlying Try.underlying52, zeros30, hst]

theorem lets_set (M : List Lt) (i : Nat) (l : Lt) (hi : i < M.length) : lets (M.set i l) = (lets M).take (i * 3) ++ ([.int .i64 l.1, .int .i64 l.2.1, .string l.2.2] ++ (lets M).drop (i * 3 + 3)) := by
  rw [List.set_eq_take_append_cons_drop, if_pos hi, lets_append, lets_take]
  show _ ++ (Value.int .i64 l.1 :: .int .i64 l.2.1 :: .string l.2.2 :: lets (M.drop (i + 1))) = _
  rw [lets_drop, show (i + 1) * 3 = i * 3 + 3 by omega]
  rfl
theorem row_open {W : World} {B gg n cap : Nat} {xs : List Value} (h : W.ownsRow B 30 3 (.slice (some ⟨gg, 0, none⟩) n cap) n xs) :
    ∃ cur, xs.length = n * 3 ∧ B ≤ gg ∧ W.heap[gg]? = some (.cells cur 30 (0, 0)) ∧ n ≤ cap ∧ cap ≤ maxLen ∧ cur.size = cap * 3 ∧ cur.toList.take (n * 3) = xs := by
  obtain ⟨h0, h2⟩ := h
  rcases h2 with ⟨h1, _⟩ | ⟨g', cap', cur, hv, hB, hh, hnc, hcm, hsz, htake⟩
  · cases h1
  · injection hv with hv1 hv2 hv3
    injection hv1 with hv1
    injection hv1 with hv1
    subst hv1 hv3
    exact ⟨cur, h0, hB, hh, hnc, hcm, hsz, htake⟩
theorem row_lay {W : World} {B gg n cap o : Nat} {M M' : List Lt} {vs : List Value} (h : W.ownsRow B 30 3 (.slice (some ⟨gg, 0, none⟩) n cap) n (lets M)) (hn : n = M.length) (hn' : M'.length = n) (hfit : o + vs.length ≤ n * 3)
    (he : lets M' = (lets M).take o ++ (vs ++ (lets M).drop (o + vs.length))) : (W.setCells gg o vs).ownsRow B 30 3 (.slice (some ⟨gg, 0, none⟩) n cap) n (lets M') := by
  obtain ⟨cur, h0, hB, hh, hnc, hcm, hsz, htake⟩ := row_open h
  refine ⟨by rw [lets_length, hn'], .inr ⟨gg, cap, _, rfl, hB, heap_setl _ _ _ _ _ _ hh, hnc, hcm, by rw [setl_size]; exact hsz, ?_⟩⟩
  have hcur : ∀ j, j < n * 3 → cur[j]? = (lets M)[j]? := fun j hj => by
    rw [← htake, List.getElem?_take, if_pos hj, Array.getElem?_toList]
  apply List.ext_getElem?
  intro j
  rw [List.getElem?_take, he]
  by_cases hj : j < n * 3
  · rw [if_pos hj, Array.getElem?_toList, setl_get _ _ _ _ (by rw [hsz]; have : n * 3 ≤ cap * 3 := Nat.mul_le_mul_right 3 hnc; omega)]
    have hlen : (lets M).length = n * 3 := by rw [lets_length, hn]
    by_cases h1 : o ≤ j ∧ j < o + vs.length
    · rw [if_pos h1, List.getElem?_append_right (by simp; omega), List.getElem?_append_left (by simp [hlen]; omega)]
      congr 1
      simp [hlen]
      omega
    · rw [if_neg h1, hcur j hj]
      by_cases h2 : j < o
      · rw [List.getElem?_append_left (by simp [hlen]; omega), List.getElem?_take, if_pos h2]
      · rw [List.getElem?_append_right (by simp; omega), List.getElem?_append_right (by simp [hlen]; omega), List.getElem?_drop]
        congr 1
        simp [hlen]
        omega
  · rw [if_neg hj, ← he, List.getElem?_eq_none (by rw [lets_length, hn']; omega)]
theorem row_set {W : World} {B gg n cap i : Nat} {M : List Lt} {f t : Int} {s : ByteArray} (h : W.ownsRow B 30 3 (.slice (some ⟨gg, 0, none⟩) n cap) n (lets M)) (hn : n = M.length) (hi : i < n) :
    (((W.setCell ⟨gg, i * 3, none⟩ (.int .i64 f)).setCell ⟨gg, i * 3 + 1, none⟩ (.int .i64 t)).setCell ⟨gg, i * 3 + 2, none⟩ (.string s)).ownsRow B 30 3 (.slice (some ⟨gg, 0, none⟩) n cap) n (lets (M.set i (f, t, s))) :=
  row_lay (o := i * 3) (vs := [.int .i64 f, .int .i64 t, .string s]) h hn (by rw [List.length_set, hn]) (by simp; omega) (lets_set M i (f, t, s) (by omega))
/-- a row cut short -/
theorem row_short {W : World} {B gg n cap k : Nat} {M : List Lt} (h : W.ownsRow B 30 3 (.slice (some ⟨gg, 0, none⟩) n cap) n (lets M)) (hn : n = M.length) (hk : k ≤ n) :
    W.ownsRow B 30 3 (.slice (some ⟨gg, 0, none⟩) k cap) k (lets (M.take k)) := by
  obtain ⟨cur, h0, hB, hh, hnc, hcm, hsz, htake⟩ := row_open h
  refine ⟨by rw [lets_length, List.length_take]; congr 1; omega, .inr ⟨gg, cap, cur, rfl, hB, hh, by omega, hcm, hsz, ?_⟩⟩
  rw [lets_take, ← htake, List.take_take]
  congr 1
  omega
/-- all but two blocks stand -/
def But2 (m gg : Nat) (W W' : World) : Prop := Kept (fun b => b < W.heap.size ∧ b ≠ m ∧ b ≠ gg) W W'
theorem But2.trans {m gg : Nat} {a b c : World} (h : But2 m gg a b) (k : But2 m gg b c) : But2 m gg a c :=
  Kept.trans h (Kept.less k fun _ hx => ⟨Nat.lt_of_lt_of_le hx.1 h.size, hx.2⟩)
theorem But.two {m gg : Nat} {a b : World} (h : But m a b) : But2 m gg a b := Kept.less h fun _ hx => ⟨hx.1, hx.2.1⟩
theorem But2.setCells {m gg : Nat} (a : World) (o : Nat) (vs : List Value) : But2 m gg a (a.setCells gg o vs) := by
  have h := grown_setCells a gg o vs
  exact ⟨h.os, h.tape, h.output, h.size, fun b hb => h.block b hb.1 (fun e => hb.2.2 (Option.some.inj e))⟩
theorem Cu.setCells {W : World} {bt bn g m n gg : Nat} {to : Int} {C : Int → Int → Int} (h : Cu W bt bn g m n to C) (o : Nat) (vs : List Value) (h1 : bt ≠ gg) (h2 : bn ≠ gg) (h3 : g ≠ gg) (h4 : m ≠ gg) : Cu (W.setCells gg o vs) bt bn g m n to C := by
  have hb : But2 m gg W (W.setCells gg o vs) := But2.setCells W o vs
  have hg := (grown_setCells W gg o vs)
  have hc : ∀ p v, p ≠ m → p ≠ gg → W.cell? ⟨p, 0, none⟩ = some v → (W.setCells gg o vs).cell? ⟨p, 0, none⟩ = some v := fun p v k1 k2 hv => (World.cell?_of_block (a := ⟨p, 0, none⟩) (hb.block p ⟨cell_lt hv, k1, k2⟩)).trans hv
  have hcg : (W.setCells gg o vs).cell? ⟨g, 2, none⟩ = some (.map (some m)) := (World.cell?_of_block (a := ⟨g, 2, none⟩) (hb.block g ⟨cell_lt h.cg, h.mg, h3⟩)).trans h.cg
  exact ⟨hc bt _ h.mt h1 h.ct, hc bn _ h.mn h2 h.cn, hcg, h.mp.move (hg.block m h.mp.lt (fun e => h4 (Option.some.inj e))), h.mt, h.mn, h.mg⟩
end Go.Proofs.Ytflaghnbbfdamaa
