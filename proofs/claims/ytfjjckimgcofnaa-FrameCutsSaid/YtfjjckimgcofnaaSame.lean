/-
  Same of the reference, at two slices that read as ONE list of texts: true; it writes nothing. And awake.
-/
import Derived.Test.YtfjjckimgcofnaaRefScan
import Derived.Deep.QuietTactic
import Derived.BigQuiet
import Derived.WalkSmall
namespace Go.Proofs.Ytfjjckimgcofnaa
open Go.RowKit

/-- a slice that reads as a list of texts -/
def Strs (w : World) (v : Value) (L : List (List UInt8)) : Prop :=
  ∃ a c, v = .slice a L.length c ∧ (L = [] ∨ ∃ g o, a = some ⟨g, o, none⟩ ∧ ∀ j, j < L.length → w.cell? ⟨g, o + j, none⟩ = some (.string (txt (L.getD j []))))

set_option maxRecDepth 100000 in
set_option maxHeartbeats 1600000 in
/-- Same at one list -/
theorem same_any (L : List (List UInt8)) (hL : L.length ≤ 1048576) (v1 v2 : Value) (w : World) (h1 : Strs w v1 L) (h2 : Strs w v2 L) :
    Calls Try.prog 16 #[v1, v2] w fun e w' => e = .returned (.bool true) ∧ Below w.heap.size w w' := by
  obtain ⟨a1, c1, rfl, k1⟩ := h1
  obtain ⟨a2, c2, rfl, k2⟩ := h2
  rcases Nat.eq_zero_or_pos L.length with h0 | hpos
  · rw [h0]
    clear k1 k2 hL h0
    go_enter Try.func16, Try.ntmps16
    go_wp2_with fail
    go_loopw [5] (fun v wr => v = .int .i64 0 ∧ Below w.heap.size w wr) (fun _ _ => 0)
    case atStart => exact ⟨rfl, Below.refl _ _⟩
    case round =>
      obtain ⟨rfl, hb⟩ := hrel
      go_wp2_with fail
      go_ret
      exact ⟨rfl, hb⟩
  · have hne : L ≠ [] := fun e => by rw [e] at hpos; exact absurd hpos (by decide)
    obtain ⟨g1, o1, rfl, m1⟩ := k1.resolve_left hne
    obtain ⟨g2, o2, rfl, m2⟩ := k2.resolve_left hne
    obtain ⟨F, hF⟩ : ∃ F : Nat → ByteArray, ∀ j, F j = txt (L.getD j []) := ⟨_, fun _ => rfl⟩
    have f1 : ∀ j, j < L.length → w.cell? ⟨g1, o1 + j, none⟩ = some (.string (F j)) := fun j hj => by rw [hF]; exact m1 j hj
    have f2 : ∀ j, j < L.length → w.cell? ⟨g2, o2 + j, none⟩ = some (.string (F j)) := fun j hj => by rw [hF]; exact m2 j hj
    clear m1 m2 k1 k2 hF hne
    generalize L.length = n at *
    go_enter Try.func16, Try.ntmps16
    go_wp2_with fail
    go_loopw [5] (fun v wr => ∃ i k : Nat, v = .int .i64 i ∧ i ≤ n ∧ wr = w.drewN k) (fun v _ => n - (intOf v).toNat)
    case atStart => exact ⟨0, 0, rfl, Nat.zero_le _, rfl⟩
    case round =>
      obtain ⟨i, k, rfl, hi, rfl⟩ := hrel
      by_cases hlt : i < n
      · have b0 : (0 : Int) ≤ (i : Int) := by omega
        have b1 : (i : Int) < (n : Int) := by omega
        have e1 : (w.drewN k).cell? ⟨g1, o1 + i, none⟩ = some (.string (F i)) := f1 i hlt
        have e2 : (w.drewN k).cell? ⟨g2, o2 + i, none⟩ = some (.string (F i)) := f2 i hlt
        go_wp2_with fail
        go_quiet (fail)
        go_wp2_with fail
        go_roundw
        case rel => exact ⟨i + 1, k + nq, i64_eq (by omega), by omega, rfl⟩
        case measure => simp [intOf]; omega
      · have b1 : ¬ (i : Int) < (n : Int) := by omega
        go_wp2_with fail
        go_ret
        exact ⟨rfl, below_drewN (Below.refl _ _) _⟩

theorem strCells_get (L : List (List UInt8)) (j : Nat) (hj : j < L.length) : (strCells L)[j]? = some (.string (txt (L.getD j []))) := by
  unfold strCells
  rw [List.getElem?_map, List.getElem?_eq_getElem hj, List.getD_eq_getElem?_getD, List.getElem?_eq_getElem hj]
  rfl

/-- a list of the call's own reads as a list of texts -/
theorem own_strs {w : World} {B : Nat} {v : Value} {L : List (List UInt8)} (h : w.ownsRow B 9 1 v L.length (strCells L)) : Strs w v L := by
  rcases h.2 with ⟨rfl, h0⟩ | ⟨g, cap, cur, hv, _⟩
  · exact ⟨none, 0, by rw [h0], .inl (List.length_eq_zero_iff.1 h0)⟩
  · refine ⟨some ⟨g, 0, none⟩, cap, hv, .inr ⟨g, 0, rfl, fun j hj => ?_⟩⟩
    subst hv
    rw [Nat.zero_add, h.cellAt j (by omega)]
    exact strCells_get L j hj
/-- what reads so does, while what was there stands -/
theorem Strs.below {w w' : World} {v : Value} {L : List (List UInt8)} (h : Strs w v L) (hb : Below w.heap.size w w') : Strs w' v L := by
  obtain ⟨a, c, hv, h0 | ⟨g, o, ha, hc⟩⟩ := h
  · exact ⟨a, c, hv, .inl h0⟩
  · refine ⟨a, c, hv, .inr ⟨g, o, ha, fun j hj => ?_⟩⟩
    have hlt : g < w.heap.size := by
      rcases Nat.lt_or_ge g w.heap.size with hlt | hge
      · exact hlt
      · have := hc j hj
        unfold World.cell? at this
        rw [Array.getElem?_eq_none hge] at this
        cases this
    rw [hb.cell (p := ⟨g, o + j, none⟩) hlt]
    exact hc j hj

theorem hi_take : Rec.take (Rec.putText [104, 105] ++ [120]) = ([104, 105], 11, 0) := Rec.take_put _ _ (by decide)
theorem hi_scan : Rec.scan (Rec.putText [104, 105] ++ (Rec.putText [104, 105] ++ (Rec.putText [104, 105]).take 5)) = ([[104, 105], [104, 105]], 22) := by
  rw [Rec.scan_put _ _ (by decide), Rec.scan_put _ _ (by decide), Rec.scan_no _ (Rec.take_short _ _ (by decide) (by decide))]
  rfl

set_option maxRecDepth 100000 in
set_option maxHeartbeats 1600000 in
/-- awake -/
theorem awake_any (w : World) : Calls Try.prog 9 #[] w fun e w' => e = .returned (.bool true) ∧ Below w.heap.size w w' := by
  obtain ⟨T, hT⟩ : ∃ T, T = txt (Rec.putText [104, 105]) := ⟨_, rfl⟩
  have hTl : T.data.toList = Rec.putText [104, 105] := by rw [hT, txt_data]
  have hTs : T.size = 11 := by rw [hT, txt_size]; rfl
  have cP : ∀ W, Calls Try.prog 10 #[.string ⟨#[104, 105]⟩] W fun e w' => e = .returned (.tuple #[.string T, .int .i64 0]) ∧ Below W.heap.size W w' := by
    intro W; rw [hT]; exact put_ok _ (by decide) W
  have cT : ∀ W, Calls Try.prog 12 #[.string (T ++ ⟨#[120]⟩)] W fun e w' => e = .returned (.tuple #[.string ⟨#[104, 105]⟩, .int .i64 11, .int .i64 0]) ∧ Below W.heap.size W w' := by
    intro W
    have := take_any (T ++ ⟨#[120]⟩) (by rw [ByteArray.size_append, hTs]; decide) W
    have e : (T ++ ⟨#[120]⟩ : ByteArray).data.toList = Rec.putText [104, 105] ++ [120] := by rw [← hTl]; simp
    rw [e, took_of hi_take] at this
    exact this
  have cS : ∀ W, Calls Try.prog 14 #[.string (T ++ T ++ T.extract 0 5)] W fun e w' => ∃ g cap, e = .returned (.tuple #[.slice (some ⟨g, 0, none⟩) 2 cap, .int .i64 22]) ∧ Below W.heap.size W w' := by
    intro W
    have hsz : (T ++ T ++ T.extract 0 5 : ByteArray).size ≤ 1048576 := by rw [ByteArray.size_append, ByteArray.size_append, ByteArray.size_extract, hTs]; decide
    have h := scan_any (T ++ T ++ T.extract 0 5) hsz W
    have e : (T ++ T ++ T.extract 0 5 : ByteArray).data.toList = Rec.putText [104, 105] ++ (Rec.putText [104, 105] ++ (Rec.putText [104, 105]).take 5) := by
      rw [← hTl]; simp [ByteArray.data_extract]
    rw [e, hi_scan] at h
    refine h.mono ?_
    rintro e w1 ⟨v, rfl, hown, hb⟩
    obtain ⟨g, cap, rfl, _⟩ := hown.form (by decide)
    exact ⟨g, cap, rfl, hb⟩
  have CP := Lib.hid cP
  have CT := Lib.hid cT
  have CS := Lib.hid cS
  clear cP cT cS hT hTl
  go_enter Try.func9, Try.ntmps9
  go_wp2_with fail
  refine (CP.out _).mono ?_
  rintro e w1 ⟨rfl, hb1⟩
  go_wp2_with fail
  refine (CT.out _).mono ?_
  rintro e w2 ⟨rfl, hb2⟩
  go_wp2_with fail
  refine (CS.out _).mono ?_
  rintro e w3 ⟨g, cap, rfl, hb3⟩
  go_wp2_with fail
  go_ret
  exact ⟨rfl, hb1.trans ((hb2.mono hb1.size).trans (hb3.mono (Nat.le_trans hb1.size hb2.size)))⟩
end Go.Proofs.Ytfjjckimgcofnaa
