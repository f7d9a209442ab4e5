/-
  same of the laws of package disk: a disk that holds what the document's does is told so. And does, at any call.
-/
import Derived.Test.YtgcghdinccdphaaDoesC
namespace Go.Proofs.Ytgcghdinccdphaa
open Go.RowKit

/-- does, at any call -/
theorem does_any {w : World} {N : Nat → Prop} {g a b c d r : Nat} {F : Nat → List UInt8} {S : Nat → Nat} (hD : Disk w g N r F S) (hR : Rfd w N a b c d F S) (kind file x y : Int) (s : ByteArray) (hs : s.size ≤ 9223372036854775807)
    (hx : -9223372036854775808 ≤ x ∧ x ≤ 9223372036854775807) (hy : -9223372036854775808 ≤ y ∧ y ≤ 9223372036854775807) {kv : Value} {L : List Int} (hL : Ints w N kv L) :
    Calls Try.prog 18 #[.pointer (some ⟨g, 0, none⟩), rval r a b c d, .agg #[.int .i64 kind, .int .i64 file, .int .i64 x, .int .i64 y, .string s, kv]] w (DidPost w N g r) := by
  obtain ⟨ka, km, kc, rfl⟩ : ∃ a m c, kv = .slice a m c := by obtain ⟨a, c, h1, _⟩ := hL; exact ⟨_, _, _, h1⟩
  by_cases h1 : kind = 1
  · subst h1; exact does_add hD hR file x y s hs ⟨_, _, _, rfl⟩
  by_cases h2 : kind = 2
  · subst h2; exact does_bytes hD hR file x y s hx hy ka km kc
  by_cases h3 : kind = 3
  · subst h3; exact does_trim hD hR file x y s ⟨_, _, _, rfl⟩
  by_cases h4 : kind = 4
  · subst h4; exact does_sync hD hR file x y s ka km kc
  by_cases h5 : kind = 5
  · subst h5; exact does_swap hD hR file x y s ⟨_, _, _, rfl⟩
  by_cases h6 : kind = 6
  · subst h6
    rcases part file with hf | ⟨k, hf, hk⟩
    · exact does_size_none hD hR file x y s hf ka km kc
    · exact does_size_ok hD hR file x y s k hk hf ka km kc
  by_cases h7 : kind = 7
  · subst h7; exact does_crash hD hR file x y s hL
  exact does_other hD hR kind ⟨h1, h2, h3, h4, h5, h6, h7⟩ file x y s ⟨_, _, _, rfl⟩

set_option maxRecDepth 100000 in
set_option maxHeartbeats 6400000 in
theorem same_any {w : World} {N : Nat → Prop} {g a b c d r : Nat} {F : Nat → List UInt8} {S : Nat → Nat} (hD : Disk w g N r F S) (hR : Rfd w N a b c d F S) :
    Calls Try.prog 19 #[.pointer (some ⟨g, 0, none⟩), rval r a b c d] w fun e w' => e = .returned (.bool true) ∧ Kept N w w' := by
  have hr := hD.r2
  have hfit := hD.fits
  have hlen : ∀ k, k < 256 → (F k).length ≤ 16777216 := fun k hk => by have := hD.len hk; omega
  have hbel : Below w.heap.size w (w.alloc (.cells #[.int .i64 (r : Nat), .slice (some ⟨a, 0, none⟩) 256 c, .slice (some ⟨b, 0, none⟩) 256 d] 45)) := (Below.refl _ _).alloc (Nat.le_refl _) _
  obtain ⟨z0, z1, z2⟩ := box3 w (.int .i64 (r : Nat)) (.slice (some ⟨a, 0, none⟩) 256 c) (.slice (some ⟨b, 0, none⟩) 256 d) 45
  have HR := Lib.hid hR
  have HD := Lib.hid hD
  have HLEN := Lib.hid hlen
  clear hD hR hlen
  unfold rval
  go_enter Try.func19, Try.ntmps19
  go_wp2_with fail
  generalize w.alloc (.cells #[.int .i64 (r : Nat), .slice (some ⟨a, 0, none⟩) 256 c, .slice (some ⟨b, 0, none⟩) 256 d] 45) = w1 at *
  have HD1 : Hid (Disk w1 g (NN N w w1) r F S) := HD.out.below hbel
  have HR1 : Hid (Rfd w1 (NN N w w1) a b c d F S) := (HR.out.below hbel).more (fun z hz => .inl hz)
  have HK1 : Hid (Kept N w w1) := Kept.of_below hbel HD.out.lt
  have hlt0 : w.heap.size < w1.heap.size := cell_lt z0
  have HM0 : Hid (NN N w w1 w.heap.size) := .inr ⟨Nat.le_refl _, hlt0⟩
  have HZ : Hid (∀ W, Kept (NN N w w1) w1 W → W.cell? ⟨w.heap.size, 0, none⟩ = some (.int .i64 (r : Nat)) ∧ W.cell? ⟨w.heap.size, 1, none⟩ = some (.slice (some ⟨a, 0, none⟩) 256 c) ∧ W.cell? ⟨w.heap.size, 2, none⟩ = some (.slice (some ⟨b, 0, none⟩) 256 d)) := fun W hk =>
    ⟨(World.cell?_of_block (a := ⟨w.heap.size, 0, none⟩) (hk.block _ HM0.out)).trans z0, (World.cell?_of_block (a := ⟨w.heap.size, 1, none⟩) (hk.block _ HM0.out)).trans z1, (World.cell?_of_block (a := ⟨w.heap.size, 2, none⟩) (hk.block _ HM0.out)).trans z2⟩
  clear hbel z0 z1 z2 HD HR
  go_loopw [5] (fun v wr => ∃ i : Nat, i ≤ 256 ∧ v = .int .i64 i ∧ Hid (Disk wr g (NN N w w1) r F S) ∧ Hid (Kept (NN N w w1) w1 wr)) (fun v _ => 256 - (intOf v).toNat)
  case atStart => exact ⟨0, by omega, rfl, HD1.out, Kept.refl _ _⟩
  case round =>
    clear HD1
    obtain ⟨i, hi, rfl, HD, HK⟩ := hrel
    by_cases hlt : i < 256
    · have i0 : (0 : Int) ≤ (i : Int) := by omega
      have i1 : (i : Int) < 256 := by omega
      have hT : (txt (F i)).size = (F i).length := txt_size _
      have hl := HLEN.out i hlt
      have hsz : ∀ W M, Disk W g M r F S → Calls Try.prog 13 #[.pointer (some ⟨g, 0, none⟩), .int .i64 i] W fun e w' => e = .returned (.tuple #[.int .i64 ((txt (F i)).size : Nat), .int .i64 (S i : Nat)]) ∧ Disk w' g M r F S ∧ Kept M W w' := fun W M h => by rw [hT]; exact size_disk h hlt
      have hby : ∀ W M, Disk W g M r F S → Calls Try.prog 14 #[.pointer (some ⟨g, 0, none⟩), .int .i64 i, .int .i64 0, .int .i64 ((txt (F i)).size : Nat)] W fun e w' => e = .returned (.tuple #[.string (txt (F i)), .int .i64 0]) ∧ W = w' := fun W M h => by
        have := bytes_disk h hlt 0 (txt (F i)).size (by rw [hT]; omega)
        rw [List.drop_zero, hT, List.take_length] at this
        rw [hT]
        exact this
      have HS1 := Lib.hid hsz
      have HY1 := Lib.hid hby
      rw [← hT] at hl
      clear hsz hby hT
      have HXA := Lib.hid (fun W hk => (HR1.out.kept (w' := W) hk).all i hlt)
      have HXB := Lib.hid (fun W hk => (HR1.out.kept (w' := W) hk).sure i hlt)
      obtain ⟨Ti, hTi⟩ : ∃ Ti, Ti = txt (F i) := ⟨_, rfl⟩
      rw [← hTi] at hl HS1 HY1 HXA
      obtain ⟨si, hsi⟩ : ∃ si, si = S i := ⟨_, rfl⟩
      rw [← hsi] at HS1 HXB
      clear hTi hsi
      go_wp2_with fail
      refine (HS1.out _ _ HD.out).mono ?_
      rintro e w2 ⟨rfl, hD2, hK2⟩
      have HD2 := Lib.hid hD2
      have HK2 := Lib.hid (HK.out.trans hK2)
      clear hD2 hK2
      obtain ⟨z0, z1, z2⟩ := HZ.out w2 HK2.out
      have xa := HXA.out w2 HK2.out
      have xb := HXB.out w2 HK2.out
      by_cases hpos : 0 < Ti.size
      · go_wp2_with fail
        refine (HY1.out _ _ HD2.out).mono ?_
        rintro e w3 ⟨rfl, rfl⟩
        go_wp2_with fail
        go_roundw
        case rel => exact ⟨i + 1, by omega, i64_eq (by omega), HD2.out, HK2.out⟩
        case measure => simp [intOf]; omega
      · have hd : decide (0 < Ti.size) = false := decide_eq_false hpos
        go_wp2_with fail
        go_roundw
        case rel => exact ⟨i + 1, by omega, i64_eq (by omega), HD2.out, HK2.out⟩
        case measure => simp [intOf]; omega
    · obtain rfl : i = 256 := by omega
      obtain ⟨z0, z1, z2⟩ := HZ.out wr HK.out
      have hru : ∀ W, Kept (NN N w w1) w1 W → Calls Try.prog 28 #[rval r a b c d] W fun e w' => e = .returned (.int .i64 (total F 256 : Nat)) ∧ Below W.heap.size W w' := fun W hk => rused_any (HR1.out.kept hk) (by omega)
      have hus : ∀ W, Disk W g (NN N w w1) r F S → Calls Try.prog 16 #[.pointer (some ⟨g, 0, none⟩)] W fun e w' => e = .returned (.int .i64 (total F 256 : Nat)) ∧ W = w' := fun W h => used_disk h
      have HRU := Lib.hid hru
      have HUS := Lib.hid hus
      have HLT := Lib.hid HD.out.lt
      unfold rval at HRU
      clear hru hus hfit
      generalize total F 256 = tt at *
      go_wp2_with fail
      have hb0 : w.heap.size < wr.heap.size := cell_lt z0
      go_region_held3 (fun w' => w'.cell? ⟨w.heap.size, 0, none⟩ = some (.int .i64 (r : Nat)) ∧ w'.cell? ⟨w.heap.size, 1, none⟩ = some (.slice (some ⟨a, 0, none⟩) 256 c) ∧ w'.cell? ⟨w.heap.size, 2, none⟩ = some (.slice (some ⟨b, 0, none⟩) 256 d)) (go_keep)
        (first
          | (go_at_call 16; refine (HUS.out _ HD.out.drew).mono ?_; rintro e w5 ⟨rfl, rfl⟩)
          | (go_at_call 28; refine (HRU.out _ HK.out.drew).mono ?_; rintro e w6 ⟨rfl, hb⟩; have y0 := (hb.cell (p := ⟨w.heap.size, 0, none⟩) hb0).trans z0; have y1 := (hb.cell (p := ⟨w.heap.size, 1, none⟩) hb0).trans z1; have y2 := (hb.cell (p := ⟨w.heap.size, 2, none⟩) hb0).trans z2))
      all_goals
        go_wp2_with fail
        go_ret
        refine ⟨?_, HK1.out.trans (((HK.out.drew).trans (Kept.of_below hb HLT.out)).less (fun z hz => .inl hz))⟩
        simp
end Go.Proofs.Ytgcghdinccdphaa
