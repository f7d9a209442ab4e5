/-
  The law NetOnce: nothing comes of nothing. Plain law on lists.
-/
import Derived.Test.YtflaghnbbfdamaaNetW
namespace Go.Proofs.Ytflaghnbbfdamaa
open Go.RowKit

/-- letter number i -/
def lt (i : Nat) : Lt := (((i % 3 : Nat) : Int), ((i % 5 : Nat) : Int), ⟨#[UInt8.ofNat i]⟩)
theorem lt_good (i : Nat) : Good (lt i) := by
  refine ⟨?_, ?_, ?_, ?_, ?_⟩ <;> simp [lt] <;> first | omega | exact (by show 1 ≤ 1048576; omega)
theorem erase_map (J : List Nat) (p : Nat) : (J.map lt).eraseIdx p = (J.eraseIdx p).map lt := by
  rw [List.eraseIdx_eq_take_drop_succ, List.eraseIdx_eq_take_drop_succ, List.map_append, List.map_take, List.map_drop]
theorem erase_mem {J : List Nat} (hJ : J.Nodup) {p j : Nat} (hp : J[p]? = some j) (x : Nat) : x ∈ J.eraseIdx p ↔ x ∈ J ∧ x ≠ j := by
  have e : J = J.take p ++ j :: J.drop (p + 1) := by
    obtain ⟨h1, h2⟩ := List.getElem?_eq_some_iff.1 hp
    rw [← h2, List.getElem_cons_drop, List.take_append_drop]
  rw [List.eraseIdx_eq_take_drop_succ]
  rw [e] at hJ
  rw [List.nodup_append] at hJ
  obtain ⟨h1, h2, h3⟩ := hJ
  rw [List.nodup_cons] at h2
  conv => rhs; rw [e]
  simp only [List.mem_append, List.mem_cons]
  constructor
  · rintro (h | h)
    · exact ⟨.inl h, fun e2 => h3 x h j (by simp) e2⟩
    · exact ⟨.inr (.inr h), fun e2 => h2.1 (e2 ▸ h)⟩
  · rintro ⟨h | h | h, hne⟩
    · exact .inl h
    · exact absurd h hne
    · exact .inr h

theorem info4 : (Try.prog.info? 4).map (fun i => (i.zero, i.size, i.bytes)) = some (some (.bool false), 1, 1) := by kernel_rfl
def brow : Array Value := madeCells #[.bool false] (64 * 1)
theorem brow_get (j : Nat) (hj : j < 64) : brow[j]? = some (.bool false) := by
  unfold brow madeCells
  simp [hj, Nat.mod_one]
theorem make_bools (W : World) : (Instr.makeSlice 31 (.int .i64 64) (.int .i64 64)).run Try.prog W = .ok (.slice (some ⟨W.heap.size, 0, none⟩) 64 64) (W.alloc (.cells brow 4)) := by
  obtain ⟨i0, hi, hz0, hz1, hz2⟩ := info_parts info4
  have := run_make (P := Try.prog) W 31 4 i0 (.bool false) Try.underlying31 hi hz0 .i64 .i64 64 64 (by omega) (by omega) (by rw [hz2]; omega) (by omega)
  rw [hz1] at this
  exact this
theorem ct_lt (i : Nat) (x y : Int) : ct ((List.range i).map lt) x y ≤ i := by
  have := ct_le ((List.range i).map lt) x y
  simpa using this
theorem range_snoc (i : Nat) : (List.range (i + 1)).map lt = (List.range i).map lt ++ [lt i] := by
  rw [List.range_succ, List.map_append]; rfl

/-- behind j takings: the letters J are left -/
structure Oc (w wr : World) (g h K j : Nat) (N : Nat → Prop) (J : List Nat) : Prop where
  net : Net wr g N 4096 (K + j) (J.map lt)
  seen : ∀ x, x < 64 → wr.cell? ⟨h, x, none⟩ = some (.bool (decide (x < K ∧ x ∉ J)))
  hf : ∀ o, wr.frozen? ⟨h, o, none⟩ = false
  nh : N h
  no : ∀ z, z < w.heap.size → N z
  hw : w.heap.size ≤ h
  kept : Kept (fun z => z < w.heap.size) w wr
  nodup : J.Nodup
  all : ∀ x ∈ J, x < K
  len : J.length + j = K
theorem Oc.drewN {w wr : World} {g h K j : Nat} {N : Nat → Prop} {J : List Nat} (H : Oc w wr g h K j N J) (n : Nat) : Oc w (wr.drewN n) g h K j N J :=
  ⟨H.net.drewN n, H.seen, H.hf, H.nh, H.no, H.hw, H.kept.drewN n, H.nodup, H.all, H.len⟩
theorem Oc.take {w wr w2 : World} {g h K j p jj : Nat} {N : Nat → Prop} {J : List Nat} (H : Oc w wr g h K j N J) (hp : J[p]? = some jj) (hjj : jj < 64)
    (hn : Net w2 g N 4096 (K + j + 1) ((J.eraseIdx p).map lt)) (hk : Kept N wr w2) : Oc w (w2.setCell ⟨h, jj, none⟩ (.bool true)) g h K (j + 1) N (J.eraseIdx p) := by
  have hh := hk.block h H.nh
  have hpl : p < J.length := (List.getElem?_eq_some_iff.1 hp).1
  have hjm : jj ∈ J := List.mem_of_getElem? hp
  refine ⟨by have := hn.store (p := ⟨h, jj, none⟩) H.nh (.bool true); rw [Nat.add_assoc] at this; exact this, fun x hx => ?_, fun o => ?_, H.nh, H.no, H.hw, ?_, H.nodup.sublist (List.eraseIdx_sublist J p), fun x hx => H.all x ((erase_mem H.nodup hp x).1 hx).1, ?_⟩
  · by_cases e : x = jj
    · subst e
      rw [World.cell?_setCell_same (h := (World.cell?_of_block (a := ⟨h, x, none⟩) hh).trans (H.seen x hx))]
      have h1 := H.all x hjm
      have h2 : x ∉ J.eraseIdx p := fun h => ((erase_mem H.nodup hp x).1 h).2 rfl
      rw [decide_eq_true ⟨h1, h2⟩]
    · rw [World.cell?_setCell_other (h := by simp <;> omega)]
      rw [(World.cell?_of_block (a := ⟨h, x, none⟩) hh).trans (H.seen x hx)]
      have : (x < K ∧ x ∉ J) ↔ (x < K ∧ x ∉ J.eraseIdx p) := by rw [erase_mem H.nodup hp x]; simp [e]
      rw [decide_eq_decide.2 this]
  · rw [World.frozen?_setCell]
    exact (World.frozen?_of_block (a := ⟨h, o, none⟩) hh).trans (H.hf o)
  · exact (H.kept.trans (hk.less fun z hz => H.no z hz)).setCell (p := ⟨h, jj, none⟩) (by show ¬ h < w.heap.size; have := H.hw; omega) _
  · rw [List.length_eraseIdx_of_lt hpl]
    have := H.len
    omega
theorem one_text (w : World) (i : Nat) (hi : i < 256) : (convert 28 9 (.slice (some ⟨w.heap.size, 0, none⟩) 1 1)).run Try.prog (w.alloc (.cells #[.int .u8 (i : Nat)] 5)) = .ok (.string ⟨#[UInt8.ofNat i]⟩) (w.alloc (.cells #[.int .u8 (i : Nat)] 5)) := by
  refine run_convert_bytes_back (w.alloc (.cells #[.int .u8 (i : Nat)] 5)) 28 9 5 ⟨w.heap.size, 0, none⟩ 1 [UInt8.ofNat i] Try.underlying28 Try.underlying5 Try.underlying9 ?_
  intro j hj
  have hj0 : j = 0 := by simpa using hj
  subst hj0
  have h := heap_alloc_new w (.cells #[.int .u8 (i : Nat)] 5)
  have e : (⟨w.heap.size, 0, none⟩ : Addr).add 0 = ⟨w.heap.size, 0, none⟩ := by simp [Addr.add]
  rw [e, cell_of_row _ _ _ _ _ _ h]
  simp
  omega

theorem and63 (n : Int) : ∃ k : Nat, k < 64 ∧ bits .and .i64 n 63 = (k : Nat) := ⟨_, Nat.mod_lt _ (by decide), i64_mask n 6 63 (by decide) (by omega)⟩
set_option maxRecDepth 100000 in
set_option maxHeartbeats 6400000 in
theorem once_main (many : Int) (a : Option Addr) (n c : Nat) (w : World) (hc : ∀ i, i < n → ∃ (b o : Nat) (x : Int), a = some ⟨b, o, none⟩ ∧ b < w.heap.size ∧ w.cell? ⟨b, o + i, none⟩ = some (.int .i64 x)) (hn : n ≤ 9223372036854775807) :
    Calls Try.prog 3 #[.int .i64 many, .slice a n c] w fun e w' => e = .returned (.bool true) ∧ Below w.heap.size w w' := by
  obtain ⟨k, hk, hand⟩ := and63 many
  have HC := Lib.hid hc
  have HN := Lib.hid (new_ok 4096 (by omega) (by omega) w)
  clear hc
  go_enter Try.func3, Try.ntmps3
  go_wp2_with fail
  refine (HN.out).mono ?_
  rintro e w1 ⟨rfl, hnet, hb1⟩
  obtain ⟨g, hg⟩ : ∃ g, g = w.heap.size + 1 := ⟨_, rfl⟩
  rw [← hg] at hnet
  rw [← hg]
  have HNET := Lib.hid hnet
  have HK1 : Hid (Kept (fun z => z < w.heap.size) w w1) := Kept.of_below hb1 (fun z hz => hz)
  clear hnet hb1 hg HN
  go_wp2_with fail
  go_loopw [8] (fun v wr => ∃ (i : Nat), i ≤ k ∧ v = .int .i64 i ∧ Hid (Net wr g (fun z => z < w.heap.size) 4096 i ((List.range i).map lt)) ∧ Hid (Kept (fun z => z < w.heap.size) w wr)) (fun v _ => k - (intOf v).toNat)
  case atStart => exact ⟨0, by omega, rfl, HNET.out, HK1.out⟩
  case round =>
    clear HNET HK1
    obtain ⟨i, hi, rfl, HY, HK⟩ := hrel
    by_cases hlt : i < k
    · have i0 : (i : Int) < (k : Int) := by omega
      have hcv := one_text wr i (by omega)
      have hb2 : Below wr.heap.size wr (wr.alloc (.cells #[.int .u8 (i : Nat)] 5)) := (Below.refl _ _).alloc (Nat.le_refl _) _
      have HB2 := Lib.hid hb2
      have HGD := Lib.hid (lt_good i)
      have hm3 : ((i : Int) % 3) = ((i % 3 : Nat) : Int) := by omega
      have hm5 : ((i : Int) % 5) = ((i % 5 : Nat) : Int) := by omega
      have H3 := Lib.hid hm3
      have H5 := Lib.hid hm5
      clear hb2 hm3 hm5
      go_wp2_with fail
      rw [H3.out, H5.out]
      refine (put_ok ((HY.out.below HB2.out).less (N' := fun z => z < w.heap.size) (fun z hz => .inl hz)) _ _ _ HGD.out (by have := ct_lt i ((i % 3 : Nat) : Int) ((i % 5 : Nat) : Int); omega) (by simp; omega) (by omega)).mono ?_
      rintro e w3 ⟨rfl, hn3, hk3⟩
      have hn3' : Net w3 g (fun z => z < w.heap.size) 4096 (i + 1) ((List.range (i + 1)).map lt) := by rw [range_snoc]; exact hn3
      have HN3 := Lib.hid hn3'
      have HK3 : Hid (Kept (fun z => z < w.heap.size) w w3) := (HK.out.trans (Kept.of_below HB2.out HY.out.lt)).trans hk3
      clear hn3 hn3' hk3
      go_wp2_with fail
      go_roundw
      case rel => exact ⟨i + 1, by omega, i64_eq (by omega), HN3.out, HK3.out⟩
      case measure => simp [intOf]; omega
    · obtain rfl : i = k := by omega
      have hmk := make_bools wr
      have hb2 : Below wr.heap.size wr (wr.alloc (.cells brow 4)) := (Below.refl _ _).alloc (Nat.le_refl _) _
      have hh : (wr.alloc (.cells brow 4)).heap[wr.heap.size]? = some (.cells brow 4 (0, 0)) := heap_alloc_new wr _
      have hlt2 : wr.heap.size < (wr.alloc (.cells brow 4)).heap.size := by simp
      have hoc : Oc w (wr.alloc (.cells brow 4)) g wr.heap.size i 0 (NN (fun z => z < w.heap.size) wr (wr.alloc (.cells brow 4))) (List.range i) :=
        ⟨HY.out.below hb2, fun x hx => by rw [cell_of_row _ _ _ _ _ _ hh, brow_get _ hx]; simp, fun o => frozen_of_row _ _ _ _ _ hh, .inr ⟨Nat.le_refl _, hlt2⟩, fun z hz => .inl hz, HK.out.size,
          HK.out.trans (Kept.of_below hb2 HY.out.lt), List.nodup_range, fun x hx => List.mem_range.1 hx, by simp⟩
      have HOC := Lib.hid hoc
      clear hoc hlt2 hh hb2 HY HK
      go_wp2_with fail
      generalize wr.alloc (.cells brow 4) = w2 at *
      generalize wr.heap.size = h at *
      clear hmk
      go_loopw [10] (fun v wx => ∃ (j : Nat) (N : Nat → Prop) (J : List Nat), j ≤ i ∧ v = .int .i64 j ∧ Hid (Oc w wx g h i j N J)) (fun v _ => i - (intOf v).toNat)
      case atStart => exact ⟨0, _, _, by omega, rfl, HOC.out⟩
      case round =>
        clear HOC
        obtain ⟨j, N, J, hj, rfl, HO⟩ := hrel
        by_cases hlt3 : j < i
        · have j0 : (j : Int) < (i : Int) := by omega
          have hJn : J ≠ [] := fun e => by have := HO.out.len; rw [e] at this; simp at this; omega
          have htk : ∀ (at_ : Int), ∃ jj, J[plc at_ J.length]? = some jj ∧ jj < i ∧ jj ∈ J := fun at_ => by
            have hp := plc_lt at_ (List.length_pos_iff.2 hJn)
            exact ⟨J[plc at_ J.length], List.getElem?_eq_getElem hp, HO.out.all _ (List.getElem_mem hp), List.getElem_mem hp⟩
          have HTK := Lib.hid htk
          clear htk hJn
          by_cases hn0 : 0 < n
          · obtain ⟨q, hq⟩ : ∃ q, q = j % n := ⟨_, rfl⟩
            have hqn : q < n := by rw [hq]; exact Nat.mod_lt _ hn0
            obtain ⟨b, o, x, rfl, hb, hx⟩ := HC.out q hqn
            have x0 : wr.cell? ⟨b, o + q, none⟩ = some (.int .i64 x) := (World.cell?_of_block (a := ⟨b, o + q, none⟩) (HO.out.kept.block b hb)).trans hx
            have hrem : (j : Int) % (n : Int) = ((q : Nat) : Int) := by rw [hq]; exact (Int.natCast_emod j n).symm
            have hm0 : (0 : Int) ≤ (q : Int) := by omega
            have hm1 : (q : Int) < (n : Int) := by omega
            have hni : (0 : Int) < (n : Int) := by omega
            clear hx hb hq
            go_wp2_with fail
            obtain ⟨jj, hjj, hji, hjm⟩ := HTK.out (x)
            have HM := Lib.hid hjm
            have HJJ := Lib.hid hjj
            have hget : (J.map lt)[plc (x) (J.map lt).length]? = some (lt jj) := by rw [List.length_map, List.getElem?_map, hjj]; rfl
            refine (take_ok HO.out.net (x) _ _ _ (by rw [List.length_map]; have := HO.out.len; omega) (by omega) hget).mono ?_
            rintro e w3 ⟨rfl, hn3, hk3⟩
            rw [List.length_map, erase_map] at hn3
            have HN3 := Lib.hid hn3
            have HK3 := Lib.hid hk3
            clear hn3 hk3 hjj hjm hget
            have hb4 : Below w3.heap.size w3 (w3.alloc (.cells #[.int .i64 ((jj : Int) % 3), .int .i64 ((jj : Int) % 5), .string ⟨#[UInt8.ofNat jj]⟩] 30)) := (Below.refl _ _).alloc (Nat.le_refl _) _
            go_wp2_with fail
            have hh4 : (w3.alloc (.cells #[.int .i64 ((jj : Int) % 3), .int .i64 ((jj : Int) % 5), .string ⟨#[UInt8.ofNat jj]⟩] 30)).heap[w3.heap.size]? = some (.cells #[.int .i64 ((jj : Int) % 3), .int .i64 ((jj : Int) % 5), .string ⟨#[UInt8.ofNat jj]⟩] 30 (0, 0)) := heap_alloc_new w3 _
            have hk4 := (HK3.out).trans (Kept.of_below hb4 HN3.out.lt)
            have hn4 := (HN3.out.below hb4).less (N' := N) (fun z hz => .inl hz)
            generalize w3.alloc (.cells #[.int .i64 ((jj : Int) % 3), .int .i64 ((jj : Int) % 5), .string ⟨#[UInt8.ofNat jj]⟩] 30) = w4 at *
            have u0 : w4.cell? ⟨w3.heap.size, 0, none⟩ = some (.int .i64 ((jj : Int) % 3)) := by rw [cell_of_row _ _ _ _ _ _ hh4]; rfl
            have u1 : w4.cell? ⟨w3.heap.size, 1, none⟩ = some (.int .i64 ((jj : Int) % 5)) := by rw [cell_of_row _ _ _ _ _ _ hh4]; rfl
            have u2 : w4.cell? ⟨w3.heap.size, 2, none⟩ = some (.string ⟨#[UInt8.ofNat jj]⟩) := by rw [cell_of_row _ _ _ _ _ _ hh4]; rfl
            have sj : w4.cell? ⟨h, jj, none⟩ = some (.bool false) := by
              rw [World.cell?_of_block (a := ⟨h, jj, none⟩) (hk4.block h HO.out.nh), HO.out.seen jj (by omega)]
              simp [HM.out]
            have HN4 := Lib.hid hn4
            have HK4 := Lib.hid hk4
            have hby : (UInt8.ofNat jj).toNat = jj := by simp; omega
            have jq : (jj : Int) < (i : Int) := by omega
            have jq0 : (0 : Int) ≤ (jj : Int) := by omega
            have jq1 : (jj : Int) < 64 := by omega
            have hg0 : ((⟨#[UInt8.ofNat jj]⟩ : ByteArray)[0]'(by show 0 < 1; omega)).toNat = jj := hby
            have hwj : IntKind.i64.wrap (jj : Int) = (jj : Int) := IntWalk.i64_in _ (by omega)
            have hle : ¬ (i : Int) ≤ (jj : Int) := by omega
            have vf : w4.frozen? ⟨h, jj, none⟩ = false := (World.frozen?_of_block (a := ⟨h, jj, none⟩) (hk4.block h HO.out.nh)).trans (HO.out.hf jj)
            have hO5 := HO.out.take HJJ.out (by omega) hn4 hk4
            have HO5 := Lib.hid hO5
            clear hO5
            clear hn4 hk4 hh4 hb4
            go_quiet (fail)
            go_wp2_with fail
            go_roundw
            case rel => exact ⟨j + 1, N, _, by omega, i64_eq (by omega), HO5.out.drewN _⟩
            case measure => simp [intOf]; omega
          · have hn1 : ¬ (0 : Int) < (n : Int) := by omega
            go_wp2_with fail
            obtain ⟨jj, hjj, hji, hjm⟩ := HTK.out (0)
            have HM := Lib.hid hjm
            have HJJ := Lib.hid hjj
            have hget : (J.map lt)[plc (0) (J.map lt).length]? = some (lt jj) := by rw [List.length_map, List.getElem?_map, hjj]; rfl
            refine (take_ok HO.out.net (0) _ _ _ (by rw [List.length_map]; have := HO.out.len; omega) (by omega) hget).mono ?_
            rintro e w3 ⟨rfl, hn3, hk3⟩
            rw [List.length_map, erase_map] at hn3
            have HN3 := Lib.hid hn3
            have HK3 := Lib.hid hk3
            clear hn3 hk3 hjj hjm hget
            have hb4 : Below w3.heap.size w3 (w3.alloc (.cells #[.int .i64 ((jj : Int) % 3), .int .i64 ((jj : Int) % 5), .string ⟨#[UInt8.ofNat jj]⟩] 30)) := (Below.refl _ _).alloc (Nat.le_refl _) _
            go_wp2_with fail
            have hh4 : (w3.alloc (.cells #[.int .i64 ((jj : Int) % 3), .int .i64 ((jj : Int) % 5), .string ⟨#[UInt8.ofNat jj]⟩] 30)).heap[w3.heap.size]? = some (.cells #[.int .i64 ((jj : Int) % 3), .int .i64 ((jj : Int) % 5), .string ⟨#[UInt8.ofNat jj]⟩] 30 (0, 0)) := heap_alloc_new w3 _
            have hk4 := (HK3.out).trans (Kept.of_below hb4 HN3.out.lt)
            have hn4 := (HN3.out.below hb4).less (N' := N) (fun z hz => .inl hz)
            generalize w3.alloc (.cells #[.int .i64 ((jj : Int) % 3), .int .i64 ((jj : Int) % 5), .string ⟨#[UInt8.ofNat jj]⟩] 30) = w4 at *
            have u0 : w4.cell? ⟨w3.heap.size, 0, none⟩ = some (.int .i64 ((jj : Int) % 3)) := by rw [cell_of_row _ _ _ _ _ _ hh4]; rfl
            have u1 : w4.cell? ⟨w3.heap.size, 1, none⟩ = some (.int .i64 ((jj : Int) % 5)) := by rw [cell_of_row _ _ _ _ _ _ hh4]; rfl
            have u2 : w4.cell? ⟨w3.heap.size, 2, none⟩ = some (.string ⟨#[UInt8.ofNat jj]⟩) := by rw [cell_of_row _ _ _ _ _ _ hh4]; rfl
            have sj : w4.cell? ⟨h, jj, none⟩ = some (.bool false) := by
              rw [World.cell?_of_block (a := ⟨h, jj, none⟩) (hk4.block h HO.out.nh), HO.out.seen jj (by omega)]
              simp [HM.out]
            have HN4 := Lib.hid hn4
            have HK4 := Lib.hid hk4
            have hby : (UInt8.ofNat jj).toNat = jj := by simp; omega
            have jq : (jj : Int) < (i : Int) := by omega
            have jq0 : (0 : Int) ≤ (jj : Int) := by omega
            have jq1 : (jj : Int) < 64 := by omega
            have hg0 : ((⟨#[UInt8.ofNat jj]⟩ : ByteArray)[0]'(by show 0 < 1; omega)).toNat = jj := hby
            have hwj : IntKind.i64.wrap (jj : Int) = (jj : Int) := IntWalk.i64_in _ (by omega)
            have hle : ¬ (i : Int) ≤ (jj : Int) := by omega
            have vf : w4.frozen? ⟨h, jj, none⟩ = false := (World.frozen?_of_block (a := ⟨h, jj, none⟩) (hk4.block h HO.out.nh)).trans (HO.out.hf jj)
            have hO5 := HO.out.take HJJ.out (by omega) hn4 hk4
            have HO5 := Lib.hid hO5
            clear hO5
            clear hn4 hk4 hh4 hb4
            go_quiet (fail)
            go_wp2_with fail
            go_roundw
            case rel => exact ⟨j + 1, N, _, by omega, i64_eq (by omega), HO5.out.drewN _⟩
            case measure => simp [intOf]; omega
        · obtain rfl : j = i := by omega
          have hJ : J = [] := List.length_eq_zero_iff.1 (by have := HO.out.len; omega)
          subst hJ
          have hnet := HO.out.net
          have HNE := Lib.hid hnet
          clear hnet
          go_wp2_with fail
          refine (take_none HNE.out 0).mono ?_
          rintro e w5 ⟨rfl, hb5⟩
          have hb6 : Below wr.heap.size wr (w5.alloc (.cells #[.int .i64 0, .int .i64 0, .string ⟨#[]⟩] 30)) := hb5.alloc hb5.size _
          have HLE := Lib.hid (len_ok (HNE.out.below hb6))
          have HK6 := Lib.hid (HO.out.kept.trans ((Kept.of_below hb6 HNE.out.lt).less fun z hz => HO.out.no z hz))
          clear hb5 hb6
          go_wp2_with fail
          generalize w5.alloc (.cells #[.int .i64 0, .int .i64 0, .string ⟨#[]⟩] 30) = w6 at *
          refine HLE.out.mono ?_
          rintro e w7 ⟨rfl, rfl⟩
          go_wp2_with fail
          refine (awake_any _).mono ?_
          rintro e w8 ⟨rfl, hb8⟩
          go_wp2_with fail
          go_ret
          have hbel := HK6.out.below (B := w.heap.size) (fun x hx => hx)
          exact ⟨rfl, hbel.trans (hb8.mono hbel.size)⟩
end Go.Proofs.Ytflaghnbbfdamaa
