/-
  The function Swap of package disk.
-/
import Derived.Test.YtgcghdinccdphaaOpsD
namespace Go.Proofs.Ytgcghdinccdphaa
open Go.RowKit

theorem setCell_self {w : World} {g i : Nat} {v : Value} (h : w.cell? ⟨g, i, none⟩ = some v) : w.setCell ⟨g, i, none⟩ v = w := by
  have hh : (w.setCell ⟨g, i, none⟩ v).heap = w.heap := by
    unfold World.setCell
    apply Array.ext
    · simp
    · intro x h1 h2
      simp only [Array.getElem_modify]
      split
      · rename_i e
        subst e
        unfold World.cell? at h
        rw [Array.getElem?_eq_getElem h2] at h
        generalize w.heap[g] = o at *
        cases o <;> simp only [Option.isSome_none, Bool.false_eq_true, if_false] at h ⊢
        rename_i c e f
        congr 1
        apply Array.ext
        · simp
        · intro y h3 h4
          rw [Array.getElem_setIfInBounds]
          split
          · rename_i e2
            subst e2
            rw [Array.getElem?_eq_getElem h4] at h
            injection h with h
            exact h.symm
          · rfl
      · rfl
  have : w.setCell ⟨g, i, none⟩ v = { w with heap := (w.setCell ⟨g, i, none⟩ v).heap } := rfl
  rw [this, hh]
/-- two places exchanged -/
def sw (a b i : Nat) : Nat := if i = b then a else if i = a then b else i
theorem sw_lt {a b i : Nat} (ha : a < 256) (hb : b < 256) (hi : i < 256) : sw a b i < 256 := by unfold sw; split <;> (try split) <;> omega
theorem sw_inj {a b i j : Nat} (h : sw a b i = sw a b j) : i = j := by
  unfold sw at h
  split at h <;> split at h <;> (try split at h) <;> (try split at h) <;> omega
theorem sw_upd {α : Type} (F : Nat → α) (a b : Nat) : (fun i => F (sw a b i)) = upd (upd F a (F b)) b (F a) := by
  funext i
  unfold upd sw
  by_cases h : i = b
  · rw [if_pos h, if_pos h]
  · rw [if_neg h, if_neg h]
    by_cases h2 : i = a
    · rw [if_pos h2, if_pos h2]
    · rw [if_neg h2, if_neg h2]
theorem total_sw (F : Nat → List UInt8) {a b : Nat} (ha : a < 256) (hb : b < 256) : total (fun i => F (sw a b i)) 256 = total F 256 := by
  rw [sw_upd]
  have h1 := total_upd F a 256 (F b)
  have h2 := total_upd (upd F a (F b)) b 256 (F a)
  rw [if_pos ha, if_pos ha] at h1
  rw [if_pos hb, if_pos hb] at h2
  have e : upd F a (F b) b = F b := by unfold upd; split <;> rfl
  rw [e] at h2
  omega
theorem Dk.swapped {w : World} {g r : Nat} {N : Nat → Prop} {V : Nat → Value} {F : Nat → List UInt8} {S : Nat → Nat} (h : Dk w g N V r F S) {a b : Nat} (ha : a < 256) (hb : b < 256) (hab : a ≠ b) :
    Dk ((((w.setCell ⟨g, 1 + a * 2, none⟩ (V b)).setCell ⟨g, 1 + a * 2 + 1, none⟩ (.int .i64 (S b : Nat))).setCell ⟨g, 1 + b * 2, none⟩ (V a)).setCell ⟨g, 1 + b * 2 + 1, none⟩ (.int .i64 (S a : Nat)))
      g N (fun i => V (sw a b i)) r (fun i => F (sw a b i)) (fun i => S (sw a b i)) ∧
    Kept N w ((((w.setCell ⟨g, 1 + a * 2, none⟩ (V b)).setCell ⟨g, 1 + a * 2 + 1, none⟩ (.int .i64 (S b : Nat))).setCell ⟨g, 1 + b * 2, none⟩ (V a)).setCell ⟨g, 1 + b * 2 + 1, none⟩ (.int .i64 (S a : Nat))) := by
  refine ⟨⟨?_, ?_, ?_, ?_, ?_, ?_, h.mine, ?_, ?_, fun i hi => h.sure _ (sw_lt ha hb hi), ?_, h.r1, h.r2⟩, ((((Kept.refl N w).setCell h.mine _).setCell h.mine _).setCell h.mine _).setCell h.mine _⟩
  · rw [World.cell?_setCell_other (h := by simp), World.cell?_setCell_other (h := by simp <;> omega), World.cell?_setCell_other (h := by simp), World.cell?_setCell_other (h := by simp <;> omega)]
    exact h.room
  · intro i hi
    by_cases e : i = b
    · subst e
      have e2 : sw a i i = a := by unfold sw; rw [if_pos rfl]
      have h3 : ((w.setCell ⟨g, 1 + a * 2, none⟩ (V i)).setCell ⟨g, 1 + a * 2 + 1, none⟩ (.int .i64 (S i : Nat))).cell? ⟨g, 1 + i * 2, none⟩ = some (V i) := by
        rw [World.cell?_setCell_other (h := by simp <;> omega), World.cell?_setCell_other (h := by simp <;> omega)]
        exact h.byt i hi
      rw [World.cell?_setCell_other (h := by simp), World.cell?_setCell_same (h := h3), e2]
    · by_cases e' : i = a
      · subst e'
        have e2 : sw i b i = b := by unfold sw; rw [if_neg e, if_pos rfl]
        rw [World.cell?_setCell_other (h := by simp <;> omega), World.cell?_setCell_other (h := by simp <;> omega), World.cell?_setCell_other (h := by simp), World.cell?_setCell_same (h := h.byt i hi), e2]
      · have e2 : sw a b i = i := by unfold sw; rw [if_neg e, if_neg e']
        rw [World.cell?_setCell_other (h := by simp <;> omega), World.cell?_setCell_other (h := by simp <;> omega), World.cell?_setCell_other (h := by simp <;> omega), World.cell?_setCell_other (h := by simp <;> omega), e2]
        exact h.byt i hi
  · intro i hi
    by_cases e : i = b
    · subst e
      have e2 : sw a i i = a := by unfold sw; rw [if_pos rfl]
      have h3 : (((w.setCell ⟨g, 1 + a * 2, none⟩ (V i)).setCell ⟨g, 1 + a * 2 + 1, none⟩ (.int .i64 (S i : Nat))).setCell ⟨g, 1 + i * 2, none⟩ (V a)).cell? ⟨g, 1 + i * 2 + 1, none⟩ = some (.int .i64 (S i : Nat)) := by
        rw [World.cell?_setCell_other (h := by simp), World.cell?_setCell_other (h := by simp <;> omega), World.cell?_setCell_other (h := by simp <;> omega)]
        exact h.sur i hi
      rw [World.cell?_setCell_same (h := h3), e2]
    · by_cases e' : i = a
      · subst e'
        have e2 : sw i b i = b := by unfold sw; rw [if_neg e, if_pos rfl]
        have h3 : (w.setCell ⟨g, 1 + i * 2, none⟩ (V b)).cell? ⟨g, 1 + i * 2 + 1, none⟩ = some (.int .i64 (S i : Nat)) := by
          rw [World.cell?_setCell_other (h := by simp)]
          exact h.sur i hi
        rw [World.cell?_setCell_other (h := by simp <;> omega), World.cell?_setCell_other (h := by simp <;> omega), World.cell?_setCell_same (h := h3), e2]
      · have e2 : sw a b i = i := by unfold sw; rw [if_neg e, if_neg e']
        rw [World.cell?_setCell_other (h := by simp <;> omega), World.cell?_setCell_other (h := by simp <;> omega), World.cell?_setCell_other (h := by simp <;> omega), World.cell?_setCell_other (h := by simp <;> omega), e2]
        exact h.sur i hi
  · intro o
    rw [World.frozen?_setCell, World.frozen?_setCell, World.frozen?_setCell, World.frozen?_setCell]
    exact h.free o
  · intro i hi
    have := h.own _ (sw_lt ha hb hi)
    exact ownsRow_setCell_below (ownsRow_setCell_below (ownsRow_setCell_below (ownsRow_setCell_below this (show g < g + 1 by omega) _) (show g < g + 1 by omega) _) (show g < g + 1 by omega) _) (show g < g + 1 by omega) _
  · intro i j hi hj hij
    exact h.apart _ _ (sw_lt ha hb hi) (sw_lt ha hb hj) (fun e => hij (sw_inj e))
  · intro i c hi e
    exact h.mines _ c (sw_lt ha hb hi) e
  · intro c hc
    have := h.lt c hc
    simp [World.setCell]
    omega
  · rw [total_sw F ha hb]
    exact h.fits

set_option maxRecDepth 100000 in
theorem swap_none {g r : Nat} {N : Nat → Prop} {F : Nat → List UInt8} {S : Nat → Nat} {w : World} (h : Disk w g N r F S) {a b : Int} (hk : a < 0 ∨ 256 ≤ a) (hb : (b < 0 ∨ 256 ≤ b) ∨ (0 ≤ b ∧ b < 256)) :
    Calls Try.prog 15 #[.pointer (some ⟨g, 0, none⟩), .int .i64 a, .int .i64 b] w fun e w' => e = .returned (.int .i64 1) ∧ w = w' := by
  obtain ⟨V, h⟩ := h
  have HO := Lib.hid (of_no g r h.r1 a hk w h.room)
  obtain ⟨p, hp⟩ : ∃ p, Calls Try.prog 21 #[.pointer (some ⟨g, 0, none⟩), .int .i64 b] w fun e w' => e = .returned (.pointer p) ∧ w = w' := by
    rcases hb with hb | ⟨h1, h2⟩
    · exact ⟨_, of_no g r h.r1 b hb w h.room⟩
    · obtain ⟨n, rfl⟩ : ∃ n : Nat, b = n := ⟨b.toNat, by omega⟩
      exact ⟨_, of_ok g r h.r1 n (by omega) w h.room⟩
  have HP := Lib.hid hp
  clear h hk hb hp
  go_enter Try.func15, Try.ntmps15
  go_wp2_with fail
  refine HO.out.mono ?_
  rintro e w1 ⟨rfl, rfl⟩
  go_wp2_with fail
  refine HP.out.mono ?_
  rintro e w1 ⟨rfl, rfl⟩
  go_wp2_with fail
  go_ret
  exact ⟨rfl, rfl⟩
set_option maxRecDepth 100000 in
theorem swap_none2 {g r : Nat} {N : Nat → Prop} {F : Nat → List UInt8} {S : Nat → Nat} {w : World} (h : Disk w g N r F S) {a : Nat} {b : Int} (hk : a < 256) (hb : b < 0 ∨ 256 ≤ b) :
    Calls Try.prog 15 #[.pointer (some ⟨g, 0, none⟩), .int .i64 a, .int .i64 b] w fun e w' => e = .returned (.int .i64 1) ∧ w = w' := by
  obtain ⟨V, h⟩ := h
  have HO := Lib.hid (of_ok g r h.r1 a hk w h.room)
  have HP := Lib.hid (of_no g r h.r1 b hb w h.room)
  clear h hk hb
  go_enter Try.func15, Try.ntmps15
  go_wp2_with fail
  refine HO.out.mono ?_
  rintro e w1 ⟨rfl, rfl⟩
  go_wp2_with fail
  refine HP.out.mono ?_
  rintro e w1 ⟨rfl, rfl⟩
  go_wp2_with fail
  go_ret
  exact ⟨rfl, rfl⟩

set_option maxRecDepth 100000 in
set_option maxHeartbeats 1600000 in
theorem swap_ok {g r : Nat} {N : Nat → Prop} {F : Nat → List UInt8} {S : Nat → Nat} {w : World} (h : Disk w g N r F S) {a b : Nat} (ha : a < 256) (hb : b < 256) (hab : a ≠ b) (sa : S a = (F a).length) (sb : S b = (F b).length) :
    Calls Try.prog 15 #[.pointer (some ⟨g, 0, none⟩), .int .i64 a, .int .i64 b] w fun e w' => e = .returned (.int .i64 0) ∧ Disk w' g N r (fun i => F (sw a b i)) (fun i => S (sw a b i)) ∧ Kept N w w' := by
  obtain ⟨V, h⟩ := h
  have HO := Lib.hid (of_ok g r h.r1 a ha w h.room)
  have HP := Lib.hid (of_ok g r h.r1 b hb w h.room)
  have hba := h.byt a ha
  have hbb := h.byt b hb
  have hsa := h.sur a ha
  have hsb := h.sur b hb
  have f1 := h.free (1 + a * 2)
  have f2 := h.free (1 + b * 2)
  have f3 := h.free (1 + a * 2 + 1)
  have f4 := h.free (1 + b * 2 + 1)
  obtain ⟨pa, ca, hVa, _⟩ := h.slice ha
  obtain ⟨pb, cb, hVb, _⟩ := h.slice hb
  rw [hVa] at hba
  rw [hVb] at hbb
  rw [sa] at hsa
  rw [sb] at hsb
  have H := Lib.hid h
  have HVA := Lib.hid hVa
  have HVB := Lib.hid hVb
  have HSA := Lib.hid sa
  have HSB := Lib.hid sb
  clear h hVa hVb sa sb
  generalize (F a).length = na at *
  generalize (F b).length = nb at *
  have hd : decide (na < na) = false := by simp
  have hd2 : decide (nb < nb) = false := by simp
  go_enter Try.func15, Try.ntmps15
  go_wp2_with fail
  refine HO.out.mono ?_
  rintro e w1 ⟨rfl, rfl⟩
  go_wp2_with fail
  refine HP.out.mono ?_
  rintro e w1 ⟨rfl, rfl⟩
  go_wp2_with fail
  go_quiet (fail)
  go_wp2_with fail
  go_region
  have hsw := Dk.swapped (H.out.drewN (nq + 1)) ha hb hab
  rw [HVA.out, HVB.out, HSA.out, HSB.out] at hsw
  have HSW := Lib.hid hsw
  clear hsw
  go_wp2_with fail
  go_ret
  exact ⟨rfl, ⟨_, HSW.out.1⟩, ((Kept.refl N w).drewN _).trans HSW.out.2⟩
set_option maxRecDepth 100000 in
set_option maxHeartbeats 1600000 in
theorem swap_self {g r : Nat} {N : Nat → Prop} {F : Nat → List UInt8} {S : Nat → Nat} {w : World} (h : Disk w g N r F S) {a : Nat} (ha : a < 256) (sa : S a = (F a).length) :
    Calls Try.prog 15 #[.pointer (some ⟨g, 0, none⟩), .int .i64 a, .int .i64 a] w fun e w' => e = .returned (.int .i64 0) ∧ Disk w' g N r F S ∧ Kept N w w' := by
  obtain ⟨V, h⟩ := h
  have HO := Lib.hid (of_ok g r h.r1 a ha w h.room)
  have hba := h.byt a ha
  have hsa := h.sur a ha
  have f1 := h.free (1 + a * 2)
  have f3 := h.free (1 + a * 2 + 1)
  obtain ⟨pa, ca, hVa, _⟩ := h.slice ha
  rw [hVa] at hba
  rw [sa] at hsa
  have H := Lib.hid h
  clear h hVa sa
  generalize (F a).length = na at *
  have hd : decide (na < na) = false := by simp
  go_enter Try.func15, Try.ntmps15
  go_wp2_with fail
  refine HO.out.mono ?_
  rintro e w1 ⟨rfl, rfl⟩
  go_wp2_with fail
  refine HO.out.mono ?_
  rintro e w1 ⟨rfl, rfl⟩
  go_wp2_with fail
  go_quiet (fail)
  go_wp2_with fail
  go_region
  have e1 : (w.drewN (nq + 1)).cell? ⟨g, 1 + a * 2, none⟩ = some (.slice pa na ca) := hba
  have e2 : (w.drewN (nq + 1)).cell? ⟨g, 1 + a * 2 + 1, none⟩ = some (.int .i64 na) := hsa
  rw [setCell_self e1, setCell_self e2, setCell_self e1, setCell_self e2]
  clear e1 e2
  go_wp2_with fail
  go_ret
  exact ⟨rfl, ⟨_, H.out.drewN _⟩, (Kept.refl N w).drewN _⟩

set_option maxRecDepth 100000 in
set_option maxHeartbeats 1600000 in
theorem swap_loose {g r : Nat} {N : Nat → Prop} {F : Nat → List UInt8} {S : Nat → Nat} {w : World} (h : Disk w g N r F S) {a b : Nat} (ha : a < 256) (hb : b < 256) (hl : S a < (F a).length ∨ (S a = (F a).length ∧ S b < (F b).length)) :
    Calls Try.prog 15 #[.pointer (some ⟨g, 0, none⟩), .int .i64 a, .int .i64 b] w fun e w' => e = .returned (.int .i64 31) ∧ Disk w' g N r F S ∧ Kept N w w' := by
  obtain ⟨V, h⟩ := h
  have HO := Lib.hid (of_ok g r h.r1 a ha w h.room)
  have HP := Lib.hid (of_ok g r h.r1 b hb w h.room)
  have hba := h.byt a ha
  have hbb := h.byt b hb
  have hsa := h.sur a ha
  have hsb := h.sur b hb
  obtain ⟨pa, ca, hVa, _⟩ := h.slice ha
  obtain ⟨pb, cb, hVb, _⟩ := h.slice hb
  rw [hVa] at hba
  rw [hVb] at hbb
  have H := Lib.hid h
  clear h hVa hVb
  have hl2 : (decide (S a < (F a).length) = true) ∨ (decide (S a < (F a).length) = false ∧ decide (S b < (F b).length) = true) := by
    rcases hl with hl | ⟨h1, h2⟩
    · left; simpa using hl
    · right; exact ⟨by simp; omega, by simpa using h2⟩
  clear hl
  generalize (F a).length = na at *
  generalize (F b).length = nb at *
  generalize S a = ka at *
  generalize S b = kb at *
  rcases hl2 with h1 | ⟨h1, h2⟩
  · go_enter Try.func15, Try.ntmps15
    go_wp2_with fail
    refine HO.out.mono ?_
    rintro e w1 ⟨rfl, rfl⟩
    go_wp2_with fail
    refine HP.out.mono ?_
    rintro e w1 ⟨rfl, rfl⟩
    go_wp2_with fail
    go_quiet (fail)
    go_wp2_with fail
    go_ret
    exact ⟨rfl, ⟨_, H.out.drewN _⟩, (Kept.refl N w).drewN _⟩
  · go_enter Try.func15, Try.ntmps15
    go_wp2_with fail
    refine HO.out.mono ?_
    rintro e w1 ⟨rfl, rfl⟩
    go_wp2_with fail
    refine HP.out.mono ?_
    rintro e w1 ⟨rfl, rfl⟩
    go_wp2_with fail
    go_quiet (fail)
    go_wp2_with fail
    go_ret
    exact ⟨rfl, ⟨_, H.out.drewN _⟩, (Kept.refl N w).drewN _⟩
end Go.Proofs.Ytgcghdinccdphaa
