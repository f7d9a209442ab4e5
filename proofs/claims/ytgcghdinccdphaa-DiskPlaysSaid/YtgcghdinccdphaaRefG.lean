/-
  The reference's function Crash.
-/
import Derived.Test.YtgcghdinccdphaaRefF
import Derived.Test.YtgcghdinccdphaaSwaps
import Derived.Laws.IdiomStrings
namespace Go.Proofs.Ytgcghdinccdphaa
open Go.RowKit

/-- a row of bytes: cells of block g, none frozen -/
def Row (w : World) (g : Nat) (l : List UInt8) : Prop := ∀ j, j < l.length → w.cell? ⟨g, j, none⟩ = some (.int .u8 (l.getD j 0).toNat) ∧ w.frozen? ⟨g, j, none⟩ = false
theorem Row.set {w : World} {g : Nat} {l : List UInt8} (h : Row w g l) (i : Nat) (y : UInt8) : Row (w.setCell ⟨g, i, none⟩ (.int .u8 y.toNat)) g (l.set i y) := by
  intro j hj
  rw [List.length_set] at hj
  obtain ⟨h1, h2⟩ := h j hj
  refine ⟨?_, by rw [World.frozen?_setCell]; exact h2⟩
  by_cases e : i = j
  · subst e
    rw [World.cell?_setCell_same (h := h1), List.getD, List.getElem?_set_self hj]
    rfl
  · rw [World.cell?_setCell_other (h := fun h => e (by injection h)), h1, List.getD, List.getD, List.getElem?_set_ne e]
theorem row_new (w : World) (s : ByteArray) (cap : Nat) (fr : Nat × Nat) (hfr : s.size ≤ fr.1) : Row (w.alloc (.cells (bytesRow s cap) 5 fr)).drew w.heap.size s.data.toList := by
  intro j hj
  have hj' : j < s.size := by simpa using hj
  have hh : (w.alloc (.cells (bytesRow s cap) 5 fr)).drew.heap[w.heap.size]? = some (.cells (bytesRow s cap) 5 fr) := heap_alloc_new w _
  constructor
  · rw [cell_of_row _ _ _ _ _ _ hh]
    simp [bytesRow, Array.getElem?_append, hj', List.getD]
  · unfold World.frozen?
    simp only [hh]
    simp
    omega
theorem Row.text {w : World} {g : Nat} {l : List UInt8} (h : Row w g l) (cap : Nat) : (convert 54 9 (.slice (some ⟨g, 0, none⟩) l.length cap)).run Try.prog w = .ok (.string ⟨l.toArray⟩) w := by
  apply run_convert_bytes_back w 54 9 5 ⟨g, 0, none⟩ cap l Try.underlying54 Try.underlying5 Try.underlying9
  intro j hj
  have := (h j hj).1
  rw [List.getD, List.getElem?_eq_getElem hj] at this
  have e : (⟨g, 0, none⟩ : Addr).add j = ⟨g, j, none⟩ := by unfold Addr.add; split <;> simp_all
  rw [e]; exact this
theorem Ints.below {w w' : World} {N : Nat → Prop} {v : Value} {L : List Int} (h : Ints w N v L) (hb : Below w.heap.size w w') : Ints w' N v L := by
  obtain ⟨a, c, h1, h2, h3, h4, h5⟩ := h
  refine ⟨a, c, h1, h2, h3, h4, ?_⟩
  rcases h5 with h5 | ⟨b, o, h5, h6, h7⟩
  · exact .inl h5
  · exact .inr ⟨b, o, h5, h6, fun j hj => (hb.cell (p := ⟨b, o + j, none⟩) (cell_lt (h7 j hj))).trans (h7 j hj)⟩
theorem Ints.at_ {w : World} {N : Nat → Prop} {a : Option Addr} {m c : Nat} {L : List Int} (h : Ints w N (.slice a m c) L) {j : Nat} (hj : j < L.length) :
    m = L.length ∧ m ≤ 9223372036854775807 ∧ ∃ b o, a = some ⟨b, o, none⟩ ∧ w.cell? ⟨b, o + j, none⟩ = some (.int .i64 (L.getD j 0)) ∧ (-9223372036854775808 ≤ L.getD j 0 ∧ L.getD j 0 ≤ 9223372036854775807) := by
  obtain ⟨a', c', h1, h2, h3, h4, h5⟩ := h
  injection h1 with e1 e2 e3
  subst e1; subst e3
  unfold maxLen at h3
  obtain ⟨b, o, rfl, hN, hc⟩ := h5.resolve_left (by rintro rfl; simp at hj)
  refine ⟨e2, by omega, b, o, rfl, hc j hj, ?_⟩
  rw [List.getD_eq_getElem?_getD, List.getElem?_eq_getElem hj]
  exact h4 _ (List.getElem_mem hj)
theorem Ints.len_ {w : World} {N : Nat → Prop} {a : Option Addr} {m c : Nat} {L : List Int} (h : Ints w N (.slice a m c) L) : m = L.length ∧ m ≤ 9223372036854775807 := by
  obtain ⟨a', c', h1, h2, h3, _⟩ := h
  injection h1 with e1 e2 e3
  subst e3
  unfold maxLen at h3
  exact ⟨e2, by omega⟩
theorem cnt_le (F : Nat → List UInt8) (S : Nat → Nat) (n : Nat) : cnt F S n ≤ n := by
  induction n with
  | zero => exact Nat.le_refl _
  | succ n ih =>
    show cnt F S n + _ ≤ n + 1
    split <;> omega
theorem and255b (x : Int) : bits .and .i64 x 255 % 256 = x % 256 := by
  rw [i64_mask x 8 255 (by decide) (by omega)]
  omega

set_option maxRecDepth 100000 in
set_option maxHeartbeats 6400000 in
theorem rcrash_any {w : World} {N : Nat → Prop} {a b c d r : Nat} {F : Nat → List UInt8} {S : Nat → Nat} (h : Rfd w N a b c d F S) (hS : ∀ k, k < 256 → S k ≤ (F k).length) (hF : ∀ k, k < 256 → (F k).length ≤ 16777216)
    {kv : Value} {L : List Int} (hL : Ints w N kv L) (turn : Int) (x : UInt8) (hx : x = UInt8.ofNat (turn % 256).toNat) :
    Calls Try.prog 27 #[rval r a b c d, kv, .int .i64 turn] w fun e w' => ∃ v, e = .returned v ∧ Rf w' (NN N w w') v r (crashF F S L x 256) (crashS F S L x 256) ∧ Below w.heap.size w w' := by
  have hbox := Rbox.new w r a b c d
  have hst : Rfd ((w.alloc (.cells #[.int .i64 (r : Nat), .slice (some ⟨a, 0, none⟩) 256 c, .slice (some ⟨b, 0, none⟩) 256 d] 45)).alloc (.cells #[.int .i64 0, .slice none 0 0, .slice none 0 0] 45)) (ON N w) a b c d (crashF F S L x 0) (crashS F S L x 0) := by
    have h2 := h.below hbox.bel
    exact ⟨.inl ⟨h.na, h.alt⟩, .inl ⟨h.nb, h.blt⟩, h2.all, h2.sure, h2.c1, h2.c2, h2.d1, h2.d2⟩
  have HST := Lib.hid hst
  have HBX := Lib.hid hbox
  have HS := Lib.hid hS
  have HFL := Lib.hid hF
  have HX := Lib.hid hx
  obtain ⟨ka, km, kc, hkv⟩ : ∃ a m c, kv = .slice a m c := by obtain ⟨a, c, h1, _⟩ := hL; exact ⟨_, _, _, h1⟩
  subst hkv
  have HL := Lib.hid hL
  obtain ⟨hkm, hkm2⟩ := hL.len_
  clear h hst hbox hS hF hx hL
  unfold rval
  go_enter Try.func27, Try.ntmps27
  go_wp2_with fail
  generalize (w.alloc (.cells #[.int .i64 (r : Nat), .slice (some ⟨a, 0, none⟩) 256 c, .slice (some ⟨b, 0, none⟩) 256 d] 45)).alloc (.cells #[.int .i64 0, .slice none 0 0, .slice none 0 0] 45) = w1 at *
  have HKM := Lib.hid hkm
  clear hkm
  go_loopw [7, 8] (fun kk v wr => ∃ (i a b c d : Nat), i ≤ 256 ∧ kk = .int .i64 (cnt F S i : Nat) ∧ v = .int .i64 i ∧ Hid (Rbox w wr r a b c d) ∧ Hid (Rfd wr (ON N w) a b c d (crashF F S L x i) (crashS F S L x i))) (fun _ v _ => 256 - (intOf v).toNat)
  case atStart => exact ⟨0, a, b, c, d, by omega, rfl, rfl, HBX.out, HST.out⟩
  case round =>
    clear HST HBX
    obtain ⟨i, a, b, c, d, hi, rfl, rfl, HB, HR⟩ := hrel
    have z0 := HB.out.c0
    have z1 := HB.out.c1
    have z2 := HB.out.c2
    by_cases hlt : i < 256
    · have i0 : (0 : Int) ≤ (i : Int) := by omega
      have i1 : (i : Int) < 256 := by omega
      have xa := HR.out.all i hlt
      have xb := HR.out.sure i hlt
      rw [crashF_at] at xa
      rw [crashS_at] at xb
      have hT : (txt (F i)).size = (F i).length := txt_size _
      have hle := HS.out i hlt
      have hfl := HFL.out i hlt
      have hcle := cnt_le F S i
      have hcnt : cnt F S (i + 1) = cnt F S i + (if S i = (F i).length then 0 else 1) := rfl
      by_cases hdone : S i = (F i).length
      · obtain ⟨hF1, hS1⟩ := crash_same F S L x i hdone
        rw [if_pos hdone] at hcnt
        rw [hdone] at xb
        have HF1 := Lib.hid hF1
        have HS1 := Lib.hid hS1
        have HC1 := Lib.hid hcnt
        obtain ⟨Ti, hTi⟩ : ∃ Ti, Ti = txt (F i) := ⟨_, rfl⟩
        rw [← hTi] at xa hT
        rw [← hT] at xb hfl
        clear hF1 hS1 hcnt hdone hT hle hTi
        generalize cnt F S i = ci at *
        go_wp2_with fail
        go_roundw
        case rel => exact ⟨i + 1, a, b, c, d, by omega, by rw [HC1.out]; rfl, i64_eq (by omega), HB.out, by rw [HF1.out, HS1.out]; exact HR.out⟩
        case measure => simp [intOf]; omega
      · rw [if_neg hdone] at hcnt
        obtain ⟨P, hP⟩ : ∃ P, P = lives F S L i := ⟨_, rfl⟩
        have hcr : crashed F S L x i = if P = 0 then (F i).take (S i) else lastXor ((F i).take (S i + P)) x := by
          rw [hP]; unfold crashed; rw [if_neg hdone]
        have hPle : P ≤ (F i).length - S i := by
          rw [hP]
          unfold lives
          split
          · have := Nat.mod_lt ((max 0 (L.getD (cnt F S i) 0)).toNat) (show 0 < (F i).length - S i + 1 by omega)
            omega
          · omega
        have hPin : cnt F S i < L.length → P = (max 0 (L.getD (cnt F S i) 0)).toNat % ((F i).length - S i + 1) := by
          intro h; rw [hP]; unfold lives; rw [if_pos h]
        have hPout : ¬ cnt F S i < L.length → P = 0 := by
          intro h; rw [hP]; unfold lives; rw [if_neg h]
        obtain ⟨Ti, hTi⟩ : ∃ Ti, Ti = txt (F i) := ⟨_, rfl⟩
        obtain ⟨sk, hsk⟩ : ∃ sk, sk = S i := ⟨_, rfl⟩
        obtain ⟨ci, hci⟩ : ∃ ci, ci = cnt F S i := ⟨_, rfl⟩
        rw [← hTi] at xa hT
        rw [← hsk] at xb hle hPle hcr hPin hdone
        rw [← hT] at hfl hle hPle hPin hdone
        rw [← hci] at hPin hPout hcnt hcle ⊢
        have hslt : sk < Ti.size := by omega
        have HPI := Lib.hid hPin
        have HPO := Lib.hid hPout
        have HCR := Lib.hid hcr
        have HC1 := Lib.hid hcnt
        have HTI := Lib.hid hTi
        have HT := Lib.hid hT
        have hdz : ((Ti.size : Int) - (sk : Int) == 0) = false := by rw [beq_eq_false_iff_ne]; omega
        clear hPin hPout hcr hcnt hTi hsk hci hT hP hdone
        go_upto_region 9 with (fail)
        go_cut [42] (fun q wx => wr = wx ∧ ((q = .bool true ∧ Hid (∃ K0 b o, ka = some ⟨b, o, none⟩ ∧ wr.cell? ⟨b, o + ci, none⟩ = some (.int .i64 K0) ∧ 0 < K0 ∧ K0 ≤ 9223372036854775807 ∧ ci < km ∧ K0 % ((Ti.size : Int) - (sk : Int) + 1) = (P : Nat))) ∨ (q = .bool false ∧ Hid (P = 0))))
        case first =>
          by_cases hin : ci < L.length
          · obtain ⟨hx1, hx2, kb, ko, rfl, hc0, hkb⟩ := (HL.out.below HB.out.bel).at_ hin
            clear hx1 hx2
            have hP := HPI.out hin
            have hmod := emod_nat (max 0 (L.getD ci 0)) (Ti.size - sk + 1) (by omega)
            rw [← hP] at hmod
            generalize L.getD ci 0 = K0 at *
            have e1 : ((Ti.size : Int) - (sk : Int) + 1) = ((Ti.size - sk + 1 : Nat) : Int) := by omega
            rw [← e1] at hmod
            have hck2 : ci < km := by have := HKM.out; omega
            have hck : (ci : Int) < (km : Int) := by omega
            have c0 : (0 : Int) ≤ (ci : Int) := by omega
            have HMOD := Lib.hid hmod
            clear hP hmod e1 hin
            by_cases hK : 0 < K0
            · have hv := HMOD.out
              rw [show max 0 K0 = K0 by omega] at hv
              have HE : Hid (∃ K0' b o, some (⟨kb, ko, none⟩ : Addr) = some ⟨b, o, none⟩ ∧ wr.cell? ⟨b, o + ci, none⟩ = some (.int .i64 K0') ∧ 0 < K0' ∧ K0' ≤ 9223372036854775807 ∧ ci < km ∧ K0' % ((Ti.size : Int) - (sk : Int) + 1) = (P : Nat)) := ⟨K0, kb, ko, rfl, hc0, hK, hkb.2, hck2, hv⟩
              clear hv
              go_wp2_with fail
              go_meet
              exact ⟨rfl, .inl ⟨rfl, HE⟩⟩
            · have hv := HMOD.out
              rw [show max 0 K0 = 0 by omega, Int.zero_emod] at hv
              have HE : Hid (P = 0) := (by omega : P = 0)
              have hKd : decide (0 < K0) = false := by simp; omega
              clear hv
              go_wp2_with fail
              go_meet
              exact ⟨rfl, .inr ⟨rfl, HE⟩⟩
          · have HE : Hid (P = 0) := HPO.out hin
            have hckd : decide (ci < km) = false := by have := HKM.out; simp; omega
            clear hin
            go_wp2_with fail
            go_meet
            exact ⟨rfl, .inr ⟨by simp, HE⟩⟩
        case rest =>
        obtain ⟨rfl, hq⟩ := hcut
        go_upto_if 42 with (fail)
        go_cut [11] (fun p wx => p = .int .i64 P ∧ wr = wx)
        case first =>
          rcases hq with ⟨rfl, HE⟩ | ⟨rfl, HE⟩
          · obtain ⟨K0, kb, ko, rfl, hc0, hK, hK2, hck2, hv⟩ := HE.out
            have HV := Lib.hid hv
            have hck : (ci : Int) < (km : Int) := by omega
            have c0 : (0 : Int) ≤ (ci : Int) := by omega
            clear hv HE
            go_wp2_with fail
            go_meet
            exact ⟨i64_eq HV.out, rfl⟩
          · go_wp2_with fail
            go_meet
            exact ⟨i64_eq (by rw [HE.out]; rfl), rfl⟩
        case rest =>
        clear hq
        obtain ⟨rfl, rfl⟩ := hcut
        obtain ⟨A, hA⟩ : ∃ A, A = Ti.extract 0 (sk + P) := ⟨_, rfl⟩
        have hAs : A.size = sk + P := by rw [hA, ByteArray.size_extract]; omega
        have hAl : A.data.toList = (F i).take (sk + P) := by rw [hA, HTI.out]; simp [txt, ByteArray.data_extract]
        have hconv := run_bytes_of_string (P := Try.prog) wr 9 54 5 A Try.underlying9 Try.underlying54 Try.underlying5
        have hE := hA.symm
        have HAS := Lib.hid hAs
        have HAL := Lib.hid hAl
        have s0 : (0 : Int) ≤ (sk : Int) + (P : Int) := by omega
        have s1 : (sk : Int) + (P : Int) ≤ (Ti.size : Int) := by omega
        clear hA hAs hAl
        go_upto_region 13 with (fail)
        have hbz : Below wr.heap.size wr ((wr.alloc (.cells (bytesRow A (grownCap wr A.size 0 5)) 5 ((bytesRow A (grownCap wr A.size 0 5)).size, (bytesRow A (grownCap wr A.size 0 5)).size + 1))).drew) := ((Below.refl _ _).alloc (Nat.le_refl _) _).drew
        have hrow : Row ((wr.alloc (.cells (bytesRow A (grownCap wr A.size 0 5)) 5 ((bytesRow A (grownCap wr A.size 0 5)).size, (bytesRow A (grownCap wr A.size 0 5)).size + 1))).drew) wr.heap.size ((F i).take (sk + P)) := by
          rw [← HAL.out]
          exact row_new wr A _ _ (by simp [bytesRow])
        have hsz2 : ((wr.alloc (.cells (bytesRow A (grownCap wr A.size 0 5)) 5 ((bytesRow A (grownCap wr A.size 0 5)).size, (bytesRow A (grownCap wr A.size 0 5)).size + 1))).drew).heap.size = wr.heap.size + 1 := by simp
        clear hconv hE z0 z1 z2 xa xb
        generalize (wr.alloc (.cells (bytesRow A (grownCap wr A.size 0 5)) 5 ((bytesRow A (grownCap wr A.size 0 5)).size, (bytesRow A (grownCap wr A.size 0 5)).size + 1))).drew = w2 at *
        generalize grownCap wr A.size 0 5 = cap at *
        have HB2 := Lib.hid (HB.out.below hbz)
        have HR2 : Hid (Rfd w2 (ON N w) a b c d (crashF F S L x i) (crashS F S L x i)) := HR.out.below hbz
        have hll : ((F i).take (sk + P)).length = A.size := by rw [← HAL.out]; simp
        have hlw : w.heap.size + 1 < wr.heap.size := HB.out.lt
        have HLL := Lib.hid hll
        have HBZ := Lib.hid hbz
        clear hbz hll
        have HWI : Hid (∀ W M l, Rfd W M a b c d (crashF F S L x i) (crashS F S L x i) → crashed F S L x i = l → l.length = sk + P → Calls Try.prog 30 #[rval r a b c d, .int .i64 i, .string (txt l), .int .i64 ((sk : Int) + (P : Int))] W fun e w' => ∃ v, e = .returned v ∧ Rf w' (fun x => W.heap.size ≤ x) v r (crashF F S L x (i + 1)) (crashS F S L x (i + 1)) ∧ Below W.heap.size W w') := by
          intro W M l hR hl hl2
          have := with_any (r := r) hR hlt (txt l) (sk + P)
          obtain ⟨e1, e2⟩ := crash_step F S L x i hl hl2
          rw [txt_data, e1, e2, Int.natCast_add] at this
          exact this
        by_cases hP0 : P = 0
        · subst hP0
          have hcr := HCR.out
          rw [if_pos rfl] at hcr
          have hl0 : ((F i).take (sk + 0)) = (F i).take sk := by rw [Nat.add_zero]
          have htx := hrow.text cap
          rw [HLL.out] at htx
          have HCE : Hid (crashed F S L x i = (F i).take (sk + 0)) := by rw [hl0]; exact hcr
          have HLE : Hid (((F i).take (sk + 0)).length = sk + 0) := by rw [HLL.out]; exact HAS.out
          have hz0 : w2.cell? ⟨w.heap.size, 0, none⟩ = some (.int .i64 (r : Nat)) := HB2.out.c0
          have hz1 := HB2.out.c1
          have hz2 := HB2.out.c2
          clear hrow hcr hl0
          have hi0 : (sk : Int) + ((0 : Nat) : Int) = (sk : Int) := by omega
          have htt : txt ((F i).take (sk + 0)) = ⟨((F i).take sk).toArray⟩ := by rw [Nat.add_zero]; rfl
          have HW2 := HWI.out w2 _ _ HR2.out HCE.out HLE.out
          rw [hi0, htt] at HW2
          have HW3 := Lib.hid HW2
          unfold rval at HW3
          clear HW2 hi0 htt
          go_wp2_with fail
          refine HW3.out.mono ?_
          rintro e w4 ⟨v, rfl, hrf, hb4⟩
          obtain ⟨a', b', c', d', rfl, hR'⟩ := hrf
          unfold rval
          have HB4 := Lib.hid (HB2.out.below hb4)
          have ha' : w2.heap.size ≤ a' := hR'.na
          have hb' : w2.heap.size ≤ b' := hR'.nb
          have HR4 := Lib.hid (hR'.stored (g := w.heap.size) (r := r) (a' := a') (b' := b') (c' := c') (d' := d') (by omega) (by omega))
          clear hR' hb4 hz0 hz1 hz2 htx
          have z0 := HB4.out.c0
          have z1 := HB4.out.c1
          have z2 := HB4.out.c2
          have g0 : w4.frozen? ⟨w.heap.size, 0, none⟩ = false := frozen_of_row _ _ _ _ _ HB4.out.b4
          have g1 : w4.frozen? ⟨w.heap.size, 1, none⟩ = false := frozen_of_row _ _ _ _ _ HB4.out.b4
          have g2 : w4.frozen? ⟨w.heap.size, 2, none⟩ = false := frozen_of_row _ _ _ _ _ HB4.out.b4
          go_wp2_with fail
          go_roundw
          case rel => exact ⟨i + 1, a', b', c', d', by omega, by rw [HC1.out]; exact i64_eq (by omega), i64_eq (by omega), HB4.out.turn, HR4.out.more (fun x hx => .inr (by have : w2.heap.size ≤ x := hx; omega))⟩
          case measure => simp [intOf]; omega
        · have hcr := HCR.out
          rw [if_neg hP0] at hcr
          obtain ⟨l, hle⟩ : ∃ l, l = (F i).take (sk + P) := ⟨_, rfl⟩
          rw [← hle] at hrow hcr HLL
          have hll : l.length = sk + P := by rw [HLL.out]; exact HAS.out
          have hlx : crashed F S L x i = l.set (sk + P - 1) (l.getD (sk + P - 1) 0 ^^^ x) := by
            rw [hcr]; unfold lastXor; rw [hll]
          have HLX := Lib.hid hlx
          have hcell := (hrow (sk + P - 1) (by omega)).1
          have hfz := (hrow (sk + P - 1) (by omega)).2
          have hrow2 := hrow.set (sk + P - 1) (l.getD (sk + P - 1) 0 ^^^ x)
          have HBIT : Hid (bits .xor .u8 ((l.getD (sk + P - 1) 0).toNat : Int) (bits .and .i64 turn 255 % 256) = ((l.getD (sk + P - 1) 0 ^^^ x).toNat : Nat)) := by
            have e : bits .and .i64 turn 255 % 256 = ((x.toNat : Nat) : Int) := by
              rw [and255b, HX.out, UInt8.toNat_ofNat']
              omega
            rw [e, u8_xor_nat _ _ (UInt8.toNat_lt _) x.toNat_lt, UInt8.toNat_xor]
            exact rfl
          have p0 : (0 : Int) ≤ (sk : Int) + (P : Int) - 1 := by omega
          have p1 : (sk : Int) + (P : Int) - 1 < (A.size : Int) := by have := HAS.out; omega
          have hll2 : (l.set (sk + P - 1) (l.getD (sk + P - 1) 0 ^^^ x)).length = A.size := by rw [List.length_set]; exact HLL.out
          have HLL2 := Lib.hid hll2
          have HLLN := Lib.hid hll
          clear hlx hcr hle hll hrow hll2
          obtain ⟨l2, hl2⟩ : ∃ l2, l2 = l.set (sk + P - 1) (l.getD (sk + P - 1) 0 ^^^ x) := ⟨_, rfl⟩
          rw [← hl2] at hrow2 HLX HLL2
          clear hl2
          generalize l.getD (sk + P - 1) 0 = cb at *
          generalize cb ^^^ x = yb at *
          have HROW := Lib.hid hrow2
          clear hrow2
          go_upto_region 15 with (fail)
          rw [HBIT.out]
          have hb3 : Below wr.heap.size wr (w2.setCell ⟨wr.heap.size, sk + P - 1, none⟩ (.int .u8 yb.toNat)) := HBZ.out.setCell (Nat.le_refl _) _
          have HB3 := Lib.hid (HB.out.below hb3)
          have HR3 : Hid (Rfd (w2.setCell ⟨wr.heap.size, sk + P - 1, none⟩ (.int .u8 yb.toNat)) (ON N w) a b c d (crashF F S L x i) (crashS F S L x i)) := HR.out.below hb3
          have hle3 : wr.heap.size ≤ (w2.setCell ⟨wr.heap.size, sk + P - 1, none⟩ (.int .u8 yb.toNat)).heap.size := hb3.size
          clear hb3 hcell hfz HBIT
          generalize w2.setCell ⟨wr.heap.size, sk + P - 1, none⟩ (.int .u8 yb.toNat) = w3 at *
          have htx := HROW.out.text cap
          rw [HLL2.out] at htx
          have hz0 := HB3.out.c0
          have hz1 := HB3.out.c1
          have hz2 := HB3.out.c2
          have HW2 := HWI.out w3 _ _ HR3.out HLX.out (by rw [HLL2.out]; exact HAS.out)
          have HW3 := Lib.hid HW2
          unfold rval at HW3
          have ht2 : (⟨l2.toArray⟩ : ByteArray) = txt l2 := rfl
          rw [ht2] at htx
          clear HW2 ht2
          go_wp2_with fail
          refine HW3.out.mono ?_
          rintro e w4 ⟨v, rfl, hrf, hb4⟩
          obtain ⟨a', b', c', d', rfl, hR'⟩ := hrf
          unfold rval
          have HB4 := Lib.hid (HB3.out.below hb4)
          have ha' : w3.heap.size ≤ a' := hR'.na
          have hb' : w3.heap.size ≤ b' := hR'.nb
          have HR4 := Lib.hid (hR'.stored (g := w.heap.size) (r := r) (a' := a') (b' := b') (c' := c') (d' := d') (by omega) (by omega))
          clear hR' hb4 hz0 hz1 hz2 htx
          have z0 := HB4.out.c0
          have z1 := HB4.out.c1
          have z2 := HB4.out.c2
          have g0 : w4.frozen? ⟨w.heap.size, 0, none⟩ = false := frozen_of_row _ _ _ _ _ HB4.out.b4
          have g1 : w4.frozen? ⟨w.heap.size, 1, none⟩ = false := frozen_of_row _ _ _ _ _ HB4.out.b4
          have g2 : w4.frozen? ⟨w.heap.size, 2, none⟩ = false := frozen_of_row _ _ _ _ _ HB4.out.b4
          go_wp2_with fail
          go_roundw
          case rel => exact ⟨i + 1, a', b', c', d', by omega, by rw [HC1.out]; exact i64_eq (by omega), i64_eq (by omega), HB4.out.turn, HR4.out.more (fun x hx => .inr (by have : w3.heap.size ≤ x := hx; omega))⟩
          case measure => simp [intOf]; omega
    · obtain rfl : i = 256 := by omega
      have s0 := HB.out.r0
      have s1 := HB.out.r1
      have s2 := HB.out.r2
      have g0 := HB.out.rf 0
      have g1 := HB.out.rf 1
      have g2 := HB.out.rf 2
      go_wp2_with fail
      obtain ⟨q1, q2, c0, c1, c2⟩ := Rbox.done2 HB.out HR.out
      refine bodyPost_ret (v := rval r a b c d) ?_ rfl ⟨_, rfl, q1, q2⟩
      unfold stored3 at c0 c1 c2
      unfold rval
      simp [results, Try.results27, go_sem, c0, c1, c2]
end Go.Proofs.Ytgcghdinccdphaa
