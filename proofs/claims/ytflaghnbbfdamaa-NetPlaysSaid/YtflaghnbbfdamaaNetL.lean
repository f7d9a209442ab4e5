/-
  slices.IndexFunc at letters, with the function that Cut hands on.
-/
import Derived.Test.YtflaghnbbfdamaaNetK
import Derived.Test.YtflaghnbbfdamaaNetH
namespace Go.Proofs.Ytflaghnbbfdamaa
open Go.RowKit

/-- how many from whom to whom, as the map holds it -/
def ctf (L : List Lt) : Int → Int → Int := fun x y => ((ct L x y : Nat) : Int)
theorem row_cells {W : World} {B gg n cap : Nat} {M : List Lt} (h : W.ownsRow B 30 3 (.slice (some ⟨gg, 0, none⟩) n cap) n (lets M)) (hn : n = M.length) {i : Nat} {f t : Int} {s : ByteArray} (hi : M[i]? = some (f, t, s)) :
    W.cell? ⟨gg, i * 3, none⟩ = some (.int .i64 f) ∧ W.cell? ⟨gg, i * 3 + 1, none⟩ = some (.int .i64 t) ∧ W.cell? ⟨gg, i * 3 + 2, none⟩ = some (.string s) := by
  have hil := (List.getElem?_eq_some_iff.1 hi).1
  rcases h.2 with ⟨h0, h1⟩ | ⟨g', cap', cur, hv, hB, hh, hnc, hcm, hsz, htake⟩
  · cases h0
  · injection hv with hv1 hv2 hv3
    injection hv1 with hv1
    injection hv1 with hv1
    subst hv1
    have hc : ∀ j, j < n * 3 → W.cell? ⟨gg, j, none⟩ = (lets M)[j]? := fun j hj => by
      rw [cell_of_row _ _ _ _ _ _ hh, ← htake, List.getElem?_take, if_pos hj, Array.getElem?_toList]
    obtain ⟨l0, l1, l2⟩ := lets_get M i _ hi
    exact ⟨(hc _ (by omega)).trans l0, (hc _ (by omega)).trans l1, (hc _ (by omega)).trans l2⟩
theorem good_fits {l : Lt} (h : Good l) : Fits l.1 ∧ Fits l.2.1 := ⟨⟨by have := h.f0; omega, by have := h.f1; omega⟩, ⟨by have := h.t0; omega, by have := h.t1; omega⟩⟩
theorem row_but {W W' : World} {B gg n cap m : Nat} {M : List Lt} (h : W.ownsRow B 30 3 (.slice (some ⟨gg, 0, none⟩) n cap) n (lets M)) (hb : But m W W') (hm : gg ≠ m) : W'.ownsRow B 30 3 (.slice (some ⟨gg, 0, none⟩) n cap) n (lets M) :=
  own_move h fun b e => hb.block b ⟨(own_lt h b e).2, by simp [Value.ownBlock] at e; omega⟩

set_option maxRecDepth 100000 in
set_option maxHeartbeats 3200000 in
theorem index_ok {W : World} {B gg cap bt bn g m n : Nat} {to : Int} {L : List Lt} (H : Cu W bt bn g m n to (ctf L)) (hr : W.ownsRow B 30 3 (.slice (some ⟨gg, 0, none⟩) L.length cap) L.length (lets L)) (hgm : gg ≠ m) (hL : L.length ≤ 100000) (hn : n ≤ 900000) (hgood : ∀ l ∈ L, Good l) :
    Calls Try.prog 29 #[.slice (some ⟨gg, 0, none⟩) L.length cap, .func (.func 27) #[] #[.pointer (some ⟨bt, 0, none⟩), .pointer (some ⟨bn, 0, none⟩)]] W fun e w' =>
      ∃ k : Nat, k ≤ L.length ∧ (∀ l ∈ L.take k, l.2.1 ≠ to) ∧ But m W w' ∧
        ((k = L.length ∧ e = .returned (.int .i64 (-1)) ∧ Cu w' bt bn g m n to (ctf L)) ∨
          (∃ f s, L[k]? = some (f, to, s) ∧ e = .returned (.int .i64 k) ∧ Cu w' bt bn g m (n + 1) to (ctf (L.eraseIdx k)))) := by
  have HG := Lib.hid hgood
  have HL := Lib.hid hL
  have HN := Lib.hid hn
  have HC := Lib.hid H
  have HR := Lib.hid hr
  clear hgood hL hn H hr
  obtain ⟨q, hq⟩ : ∃ q, q = L.length := ⟨_, rfl⟩
  have HQ := Lib.hid hq
  rw [← hq]
  clear hq
  go_enter Try.func29, Try.ntmps29
  go_wp2_with fail
  go_loopw [8] (fun v wr => ∃ (k : Nat), k ≤ q ∧ v = .int .i64 k ∧ Hid (∀ l ∈ L.take k, l.2.1 ≠ to) ∧ Hid (But m W wr) ∧ Hid (Cu wr bt bn g m n to (ctf L))) (fun v _ => q - (intOf v).toNat)
  case atStart => exact ⟨0, by omega, rfl, (by intro l hl; simp at hl), But.refl _ _, HC.out⟩
  case round =>
    clear HC
    obtain ⟨k, hk, rfl, HT, HB, HC⟩ := hrel
    by_cases hlt : k < q
    · have hk1 : (k : Int) < (q : Int) := by omega
      obtain ⟨⟨f, t, s⟩, hget⟩ : ∃ l, L[k]? = some l := ⟨_, List.getElem?_eq_getElem (by rw [← HQ.out]; exact hlt)⟩
      have hrow := row_but HR.out HB.out hgm
      obtain ⟨z0, z1, z2⟩ := row_cells hrow rfl hget
      have hgd := HG.out _ (List.mem_of_getElem? hget)
      have HGD := Lib.hid hgd
      have HGET := Lib.hid hget
      have k0 : (0 : Int) ≤ (k : Int) := by omega
      have hq2 : q ≤ 100000 := by rw [HQ.out]; exact HL.out
      clear hgd hget hrow
      by_cases ht : t = to
      · subst ht
        have hc := ct_le L f t
        have hHL := HL.out
        have hHN := HN.out
        have hyes := hit_yes HC.out f s (good_fits HGD.out).1 (good_fits HGD.out).2 (by show -1000000 ≤ ((ct L f t : Nat) : Int) ∧ ((ct L f t : Nat) : Int) ≤ 1000000; omega) (by omega)
        rw [show upd2 (ctf L) f t (ctf L f t - 1) = ctf (L.eraseIdx k) from ct_erase L k f t s HGET.out] at hyes
        have HY := Lib.hid hyes
        clear hyes hc hHL hHN
        go_wp2_with fail
        refine HY.out.mono ?_
        rintro e w3 ⟨rfl, hc3, hb3⟩
        have HC3 := Lib.hid hc3
        have HB3 := Lib.hid (HB.out.trans hb3)
        clear hc3 hb3
        go_wp2_with fail
        go_ret
        exact ⟨k, by omega, HT.out, HB3.out, .inr ⟨f, s, HGET.out, rfl, HC3.out⟩⟩
      · have HNO := Lib.hid (hit_no HC.out f t s ht)
        go_wp2_with fail
        refine HNO.out.mono ?_
        rintro e w3 ⟨rfl, hc3, hb3⟩
        have HC3 := Lib.hid hc3
        have HB3 := Lib.hid (HB.out.trans hb3)
        have hT3 : ∀ l ∈ L.take (k + 1), l.2.1 ≠ to := by
          intro l hl
          rw [List.take_add_one, List.mem_append] at hl
          rcases hl with hl | hl
          · exact HT.out l hl
          · rw [HGET.out] at hl
            simp at hl
            rw [hl]
            exact ht
        have HT3 := Lib.hid hT3
        clear hc3 hb3 hT3
        go_wp2_with fail
        go_roundw
        case rel => exact ⟨k + 1, by omega, i64_eq (by omega), HT3.out, HB3.out, HC3.out⟩
        case measure => simp [intOf]; omega
    · obtain rfl : k = q := by omega
      go_wp2_with fail
      go_ret
      exact ⟨k, by omega, HT.out, HB.out, .inl ⟨rfl, rfl, HC.out⟩⟩
end Go.Proofs.Ytflaghnbbfdamaa
