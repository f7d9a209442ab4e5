/-
  What the law DiskSurvives holds in memory, and the plain law of a crash.
-/
import Derived.Test.YtgcghdinccdphaaAwake
import Derived.Test.YtgcghdinccdphaaSwaps
import Derived.Test.YtgcghdinccdphaaRoom
namespace Go.Proofs.Ytgcghdinccdphaa
open Go.RowKit

/-- what survives begins as the file did -/
theorem crashed_law (F : Nat → List UInt8) (S : Nat → Nat) (L : List Int) (x : UInt8) (k : Nat) (h : S k ≤ (F k).length) :
    S k ≤ (crashed F S L x k).length ∧ (crashed F S L x k).length ≤ (F k).length ∧ (crashed F S L x k).take (S k) = (F k).take (S k) ∧
      (S k < (crashed F S L x k).length → (crashed F S L x k).take ((crashed F S L x k).length - 1) = (F k).take ((crashed F S L x k).length - 1)) := by
  have hle : lives F S L k ≤ (F k).length - S k := by
    unfold lives
    split
    · have := Nat.mod_lt ((max 0 (L.getD (cnt F S k) 0)).toNat) (show 0 < (F k).length - S k + 1 by omega)
      omega
    · omega
  unfold crashed
  split
  · rename_i h1
    exact ⟨h, Nat.le_refl _, rfl, fun _ => rfl⟩
  · split
    · have hl : ((F k).take (S k)).length = S k := by rw [List.length_take]; omega
      rw [hl]
      refine ⟨Nat.le_refl _, h, ?_, fun h2 => absurd h2 (Nat.lt_irrefl _)⟩
      rw [List.take_take, Nat.min_self]
    · rename_i h1 h2
      have hl : ((F k).take (S k + lives F S L k)).length = S k + lives F S L k := by rw [List.length_take]; omega
      rw [lastXor_length, hl]
      refine ⟨by omega, by omega, ?_, fun _ => ?_⟩
      · unfold lastXor
        rw [hl, List.take_set, List.take_take, List.set_eq_of_length_le (by rw [List.length_take]; omega), Nat.min_eq_left (by omega)]
      · unfold lastXor
        rw [hl, List.take_set, List.take_take, List.set_eq_of_length_le (by rw [List.length_take]; omega), Nat.min_eq_left (by omega)]

/-- blocks that are not the disk's -/
def NS (g gA gS : Nat) : Nat → Prop := fun b => b < g ∨ b = gA ∨ b = gS

structure Surv (w : World) (g gA gS : Nat) (F : Nat → List UInt8) (S T : Nat → Nat) : Prop where
  disk : Disk w g (NS g gA gS) 1048576 F S
  all : ∀ j, j < 3 → w.cell? ⟨gA, j, none⟩ = some (.string (txt (F (7 * j))))
  allf : ∀ j, w.frozen? ⟨gA, j, none⟩ = false
  sure : ∀ j, j < 3 → w.cell? ⟨gS, j, none⟩ = some (.int .i64 (T j : Nat))
  suref : ∀ j, w.frozen? ⟨gS, j, none⟩ = false
  ne : gA ≠ gS
section
variable {w w' : World} {g gA gS : Nat} {F F' : Nat → List UInt8} {S S' T : Nat → Nat}
theorem Surv.all_kept (h : Surv w g gA gS F S T) (hk : Kept (NS g gA gS) w w') {j : Nat} (hj : j < 3) : w'.cell? ⟨gA, j, none⟩ = some (.string (txt (F (7 * j)))) :=
  (World.cell?_of_block (a := ⟨gA, j, none⟩) (hk.block gA (.inr (.inl rfl)))).trans (h.all j hj)
theorem Surv.allf_kept (h : Surv w g gA gS F S T) (hk : Kept (NS g gA gS) w w') (j : Nat) : w'.frozen? ⟨gA, j, none⟩ = false :=
  (World.frozen?_of_block (a := ⟨gA, j, none⟩) (hk.block gA (.inr (.inl rfl)))).trans (h.allf j)
theorem Surv.sure_kept (h : Surv w g gA gS F S T) (hk : Kept (NS g gA gS) w w') {j : Nat} (hj : j < 3) : w'.cell? ⟨gS, j, none⟩ = some (.int .i64 (T j : Nat)) :=
  (World.cell?_of_block (a := ⟨gS, j, none⟩) (hk.block gS (.inr (.inr rfl)))).trans (h.sure j hj)
theorem Surv.suref_kept (h : Surv w g gA gS F S T) (hk : Kept (NS g gA gS) w w') (j : Nat) : w'.frozen? ⟨gS, j, none⟩ = false :=
  (World.frozen?_of_block (a := ⟨gS, j, none⟩) (hk.block gS (.inr (.inr rfl)))).trans (h.suref j)
/-- the disk turns, its files do not -/
theorem Surv.same (h : Surv w g gA gS F S T) (hd : Disk w' g (NS g gA gS) 1048576 F S') (hk : Kept (NS g gA gS) w w') : Surv w' g gA gS F S' T :=
  ⟨hd, fun _ hj => h.all_kept hk hj, h.allf_kept hk, fun _ hj => h.sure_kept hk hj, h.suref_kept hk, h.ne⟩
/-- a text is added, and noted -/
theorem Surv.add (h : Surv w g gA gS F S T) {q : Nat} (hq : q < 3) {X : ByteArray} (hd : Disk w' g (NS g gA gS) 1048576 (upd F (7 * q) (F (7 * q) ++ X.data.toList)) S) (hk : Kept (NS g gA gS) w w') :
    Surv (w'.setCell ⟨gA, q, none⟩ (.string (txt (F (7 * q)) ++ X))) g gA gS (upd F (7 * q) (F (7 * q) ++ X.data.toList)) S T ∧ Kept (fun b => b < g) w (w'.setCell ⟨gA, q, none⟩ (.string (txt (F (7 * q)) ++ X))) ∨ gA < g := by
  rcases Nat.lt_or_ge gA g with hlt | hge
  · exact .inr hlt
  left
  refine ⟨⟨hd.store (.inr (.inl rfl)) _, fun j hj => ?_, fun j => ?_, fun j hj => ?_, fun j => ?_, h.ne⟩, (hk.less (fun b hb => .inl hb)).setCell (by show ¬ gA < g; omega) _⟩
  · by_cases e : j = q
    · subst e
      rw [World.cell?_setCell_same (h := h.all_kept hk hj), upd_same]
      have : txt (F (7 * j)) ++ X = txt (F (7 * j) ++ X.data.toList) := ba_ext (by simp [txt])
      rw [this]
    · rw [World.cell?_setCell_other (h := by simp <;> omega), h.all_kept hk hj, upd_other _ _ _ _ (by omega)]
  · rw [World.frozen?_setCell]; exact h.allf_kept hk j
  · rw [World.cell?_setCell_other (h := by simp; intro e; exact absurd e h.ne)]
    exact h.sure_kept hk hj
  · rw [World.frozen?_setCell]; exact h.suref_kept hk j
/-- a length is noted -/
theorem Surv.note (h : Surv w g gA gS F S T) {q : Nat} (hq : q < 3) (n : Nat) : Surv (w.setCell ⟨gS, q, none⟩ (.int .i64 (n : Nat))) g gA gS F S (upd T q n) := by
  refine ⟨h.disk.store (.inr (.inr rfl)) _, fun j hj => ?_, fun j => ?_, fun j hj => ?_, fun j => ?_, h.ne⟩
  · rw [World.cell?_setCell_other (h := by simp; intro e; exact absurd e.symm h.ne)]
    exact h.all j hj
  · rw [World.frozen?_setCell]; exact h.allf j
  · by_cases e : j = q
    · subst e
      rw [World.cell?_setCell_same (h := h.sure j hj), upd_same]
    · rw [World.cell?_setCell_other (h := by simp <;> omega), upd_other _ _ _ _ e]
      exact h.sure j hj
  · rw [World.frozen?_setCell]; exact h.suref j
end
end Go.Proofs.Ytgcghdinccdphaa
