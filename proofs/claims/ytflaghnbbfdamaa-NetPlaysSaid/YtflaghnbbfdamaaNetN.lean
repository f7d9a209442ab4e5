/-
  slices.DeleteFunc at letters, with the function that Cut hands on: the walk.
-/
import Derived.Test.YtflaghnbbfdamaaNetM
namespace Go.Proofs.Ytflaghnbbfdamaa
open Go.RowKit

/-- is not to the one that is cut off -/
def kp (to : Int) (l : Lt) : Bool := decide (l.2.1 ≠ to)
theorem filter_snoc (to : Int) (L : List Lt) (j : Nat) (l : Lt) (h : L[j]? = some l) : (L.take (j + 1)).filter (kp to) = (L.take j).filter (kp to) ++ if l.2.1 = to then [] else [l] := by
  rw [List.take_add_one, h, List.filter_append]
  congr 1
  unfold kp
  by_cases e : l.2.1 = to <;> simp [e]
structure Df (W wr : World) (B gg cap bt bn g m n q i j : Nat) (to : Int) (L M : List Lt) : Prop where
  len : M.length = q
  lt : i < j
  le : j ≤ q
  tk : M.take i = (L.take j).filter (kp to)
  dr : M.drop j = L.drop j
  row : wr.ownsRow B 30 3 (.slice (some ⟨gg, 0, none⟩) q cap) q (lets M)
  cu : Cu wr bt bn g m (n + j) to (ctf (M.take i ++ M.drop j))
  two : But2 m gg W wr
theorem Cu.mono {W : World} {bt bn g m n k : Nat} {to : Int} {C : Int → Int → Int} (h : Cu W bt bn g m n to C) (hk : n ≤ k) : Cu W bt bn g m k to C := ⟨h.ct, h.cn, h.cg, h.mp.mono hk, h.mt, h.mn, h.mg⟩
section
variable {W wr w2 : World} {B gg cap bt bn g m n q i j : Nat} {to : Int} {L M : List Lt} {l : Lt}
theorem Df.at_ (h : Df W wr B gg cap bt bn g m n q i j to L M) (hj : j < q) : ∃ l, L[j]? = some l ∧ M[j]? = some l ∧ M.drop j = l :: M.drop (j + 1) := by
  have hjm : j < M.length := by rw [h.len]; exact hj
  refine ⟨M[j], ?_, List.getElem?_eq_getElem hjm, (List.getElem_cons_drop hjm).symm⟩
  have := congrArg (fun x => x[0]?) h.dr
  simp only [List.getElem?_drop, Nat.add_zero] at this
  rw [← this, List.getElem?_eq_getElem hjm]
theorem Df.hit {f : Int} {s : ByteArray} (h : Df W wr B gg cap bt bn g m n q i j to L M) (hj : j < q) (hl : L[j]? = some (f, to, s)) (hd : M.drop j = (f, to, s) :: M.drop (j + 1)) (hb : But m wr w2) (hgm : gg ≠ m)
    (hc : Cu w2 bt bn g m (n + j + 1) to (upd2 (ctf (M.take i ++ M.drop j)) f to (ctf (M.take i ++ M.drop j) f to - 1))) : Df W w2 B gg cap bt bn g m n q i (j + 1) to L M := by
  have hi : i < M.length := by rw [h.len]; have := h.lt; omega
  have htl : (M.take i).length = i := by rw [List.length_take]; omega
  refine ⟨h.len, by have := h.lt; omega, by omega, ?_, ?_, row_but h.row hb hgm, ?_, h.two.trans hb.two⟩
  · rw [filter_snoc to L j _ hl, if_pos rfl, List.append_nil]; exact h.tk
  · rw [← List.drop_drop, ← List.drop_drop, h.dr]
  · rw [hd] at hc
    have e := ct_erase (M.take i ++ (f, to, s) :: M.drop (j + 1)) i f to s (by rw [List.getElem?_append_right (by omega), htl]; simp)
    have e2 : (M.take i ++ (f, to, s) :: M.drop (j + 1)).eraseIdx i = M.take i ++ M.drop (j + 1) := by
      rw [List.eraseIdx_append_of_length_le (by omega), htl]; simp
    rw [e2] at e
    have : upd2 (ctf (M.take i ++ (f, to, s) :: M.drop (j + 1))) f to (ctf (M.take i ++ (f, to, s) :: M.drop (j + 1)) f to - 1) = ctf (M.take i ++ M.drop (j + 1)) := e
    rw [this] at hc
    exact hc
theorem Df.miss {f t : Int} {s : ByteArray} (h : Df W wr B gg cap bt bn g m n q i j to L M) (hj : j < q) (hl : L[j]? = some (f, t, s)) (hd : M.drop j = (f, t, s) :: M.drop (j + 1)) (ht : t ≠ to) (hb : But m wr w2) (hgm : gg ≠ m)
    (h1 : bt ≠ gg) (h2 : bn ≠ gg) (h3 : g ≠ gg) (hc : Cu w2 bt bn g m (n + j) to (ctf (M.take i ++ M.drop j))) :
    Df W (((w2.setCell ⟨gg, i * 3, none⟩ (.int .i64 f)).setCell ⟨gg, i * 3 + 1, none⟩ (.int .i64 t)).setCell ⟨gg, i * 3 + 2, none⟩ (.string s)) B gg cap bt bn g m n q (i + 1) (j + 1) to L (M.set i (f, t, s)) := by
  have hij := h.lt
  have hi : i < M.length := by rw [h.len]; omega
  have hset := (hc.setCells (i * 3) [.int .i64 f, .int .i64 t, .string s] h1 h2 h3 (Ne.symm hgm)).mono (show n + j ≤ n + (j + 1) by omega)
  have htw : But2 m gg w2 (w2.setCells gg (i * 3) [.int .i64 f, .int .i64 t, .string s]) := But2.setCells w2 _ _
  have e1 : (M.set i (f, t, s)).take (i + 1) = M.take i ++ [(f, t, s)] := by
    rw [List.set_eq_take_append_cons_drop, if_pos hi, List.take_append, List.length_take]
    have : min i M.length = i := by omega
    rw [this, List.take_of_length_le (by rw [List.length_take]; omega), show i + 1 - i = 1 by omega]
    rfl
  have e2 : (M.set i (f, t, s)).drop (j + 1) = M.drop (j + 1) := by rw [List.drop_set_of_lt (by omega)]
  refine ⟨by rw [List.length_set]; exact h.len, by omega, by omega, ?_, ?_, row_set (row_but h.row hb hgm) h.len.symm (by omega), ?_, (h.two.trans hb.two).trans htw⟩
  · rw [e1, filter_snoc to L j _ hl, if_neg ht, h.tk]
  · rw [e2, ← List.drop_drop, ← List.drop_drop, h.dr]
  · rw [e1, e2, List.append_assoc]
    rw [hd] at hset
    exact hset
end
theorem Df.start {W wr : World} {B gg cap bt bn g m n k : Nat} {to f : Int} {s : ByteArray} {L : List Lt} (hk : ∀ l ∈ L.take k, l.2.1 ≠ to) (hl : L[k]? = some (f, to, s)) (hb : But m W wr) (hgm : gg ≠ m)
    (hr : W.ownsRow B 30 3 (.slice (some ⟨gg, 0, none⟩) L.length cap) L.length (lets L)) (hc : Cu wr bt bn g m (n + 1) to (ctf (L.eraseIdx k))) : Df W wr B gg cap bt bn g m n L.length k (k + 1) to L L := by
  have hkl := (List.getElem?_eq_some_iff.1 hl).1
  refine ⟨rfl, by omega, by omega, ?_, rfl, row_but hr hb hgm, ?_, hb.two⟩
  · rw [filter_snoc to L k _ hl, if_pos rfl, List.append_nil]
    exact (List.filter_eq_self.2 fun l h => by unfold kp; simpa using hk l h).symm
  · rw [← List.eraseIdx_eq_take_drop_succ]
    exact hc.mono (by omega)

set_option maxRecDepth 100000 in
set_option maxHeartbeats 6400000 in
theorem delfunc_ok {W : World} {B gg cap bt bn g m n : Nat} {to : Int} {L : List Lt} (H : Cu W bt bn g m n to (ctf L)) (hr : W.ownsRow B 30 3 (.slice (some ⟨gg, 0, none⟩) L.length cap) L.length (lets L)) (hgm : gg ≠ m)
    (h1 : bt ≠ gg) (h2 : bn ≠ gg) (h3 : g ≠ gg) (hL : L.length ≤ 100000) (hn : n ≤ 800000) (hgood : ∀ l ∈ L, Good l) :
    Calls Try.prog 26 #[.slice (some ⟨gg, 0, none⟩) L.length cap, .func (.func 27) #[] #[.pointer (some ⟨bt, 0, none⟩), .pointer (some ⟨bn, 0, none⟩)]] W fun e w' =>
      ∃ k : Nat, k = (L.filter (kp to)).length ∧ e = .returned (.slice (some ⟨gg, 0, none⟩) k cap) ∧ w'.ownsRow B 30 3 (.slice (some ⟨gg, 0, none⟩) k cap) k (lets (L.filter (kp to))) ∧
        Cu w' bt bn g m (n + L.length) to (ctf (L.filter (kp to))) ∧ But2 m gg W w' := by
  have HI := Lib.hid (index_ok H hr hgm hL (by omega) hgood)
  have HG := Lib.hid hgood
  have HL := Lib.hid hL
  have HN := Lib.hid hn
  have HR := Lib.hid hr
  have hcap : L.length ≤ cap ∧ cap ≤ maxLen := by
    obtain ⟨_, _, _, _, h1, h2, _⟩ := row_open hr
    exact ⟨h1, h2⟩
  obtain ⟨hcap, hcapm⟩ := hcap
  unfold maxLen at hcapm
  clear hgood hL hn H hr
  obtain ⟨q, hq⟩ : ∃ q, q = L.length := ⟨_, rfl⟩
  have HQ := Lib.hid hq
  rw [← hq] at hcap ⊢
  rw [← hq] at HI
  clear hq
  go_enter Try.func26, Try.ntmps26
  go_wp2_with fail
  refine HI.out.mono ?_
  rintro e w1 ⟨k, hk, hT, hB1, hcase⟩
  rcases hcase with ⟨rfl, rfl, hc⟩ | ⟨f0, s0, hget, rfl, hc⟩
  · have hfl : L.filter (kp to) = L := List.filter_eq_self.2 fun l h => by
      unfold kp
      have := hT l (by rw [List.take_of_length_le (by rw [← HQ.out]; omega)]; exact h)
      simpa using this
    have HC := Lib.hid hc
    have HB := Lib.hid hB1
    have HFL := Lib.hid hfl
    clear hc hB1 hfl hT HI
    go_wp2_with fail
    go_ret
    rw [HFL.out]
    exact ⟨k, HQ.out, rfl, by rw [HQ.out]; exact row_but HR.out HB.out hgm, HC.out.mono (by omega), HB.out.two⟩
  · have hdf := Df.start (n := n) hT hget hB1 hgm HR.out hc
    rw [← HQ.out] at hdf
    have HD := Lib.hid hdf
    have hkq : k < q := by have := hdf.le; omega
    have hq2 : q ≤ 100000 := by rw [HQ.out]; exact HL.out
    have hkm : ¬ ((k : Int) == -1) = true := by simp <;> omega
    clear hdf hT hget hB1 hc HI
    go_wp2_with fail
    go_loopw [5, 6] (fun vi vj wr => ∃ (i j : Nat) (M : List Lt), vi = .int .i64 i ∧ vj = .int .i64 j ∧ i < j ∧ j ≤ q ∧ Hid (Df W wr B gg cap bt bn g m n q i j to L M)) (fun _ vj _ => q - (intOf vj).toNat)
    case atStart => exact ⟨k, k + 1, L, rfl, i64_eq (by omega), by omega, by omega, HD.out⟩
    case round =>
      clear HD hkm hkq hk
      obtain ⟨i, j, M, rfl, rfl, hij, hjq, HD⟩ := hrel
      by_cases hlt : j < q
      · have hj1 : (j : Int) < (q : Int) := by omega
        have hj0 : (0 : Int) ≤ (j : Int) := by omega
        obtain ⟨⟨f, t, s⟩, hlj, hmj, hdj⟩ := HD.out.at_ hlt
        obtain ⟨z0, z1, z2⟩ := row_cells HD.out.row HD.out.len.symm hmj
        have HLJ := Lib.hid hlj
        have HDJ := Lib.hid hdj
        have hgd := HG.out _ (List.mem_of_getElem? hlj)
        have HGD := Lib.hid hgd
        have hb4 : Below wr.heap.size wr (wr.alloc (.cells #[.int .i64 f, .int .i64 t, .string s] 30)) := (Below.refl _ _).alloc (Nat.le_refl _) _
        have hh4 : (wr.alloc (.cells #[.int .i64 f, .int .i64 t, .string s] 30)).heap[wr.heap.size]? = some (.cells #[.int .i64 f, .int .i64 t, .string s] 30 (0, 0)) := heap_alloc_new wr _
        have hc4 := HD.out.cu.below hb4
        have HB4 := Lib.hid hb4
        have HH4 := Lib.hid hh4
        have HC4 := Lib.hid hc4
        clear hlj hdj hmj hgd hb4 hh4 hc4
        by_cases ht : t = to
        · subst ht
          go_wp2_with fail
          generalize wr.alloc (.cells #[.int .i64 f, .int .i64 t, .string s] 30) = w4 at *
          have hc := ct_le (M.take i ++ M.drop j) f t
          have hml : (M.take i ++ M.drop j).length ≤ q := by rw [List.length_append, List.length_take, List.length_drop, HD.out.len]; omega
          have hnn := HN.out
          have HY := Lib.hid (hit_yes HC4.out f s (good_fits HGD.out).1 (good_fits HGD.out).2 (by show -1000000 ≤ ((ct (M.take i ++ M.drop j) f t : Nat) : Int) ∧ ((ct (M.take i ++ M.drop j) f t : Nat) : Int) ≤ 1000000; omega) (by omega))
          clear hc hml hnn
          refine HY.out.mono ?_
          rintro e w5 ⟨rfl, hc5, hb5⟩
          have hd5 := HD.out.hit hlt HLJ.out HDJ.out ((But.of_below HB4.out).trans hb5) hgm hc5
          have HD5 := Lib.hid hd5
          clear hc5 hb5 hd5 z0 z1 z2 HY
          go_wp2_with fail
          go_roundw
          case rel => exact ⟨i, j + 1, M, rfl, i64_eq (by omega), by omega, by omega, HD5.out⟩
          case measure => simp [intOf]; omega
        · go_wp2_with fail
          generalize wr.alloc (.cells #[.int .i64 f, .int .i64 t, .string s] 30) = w4 at *
          have hbm : wr.heap.size ≠ m := fun e => by have := HD.out.cu.mp.lt; omega
          refine (hit_no HC4.out f t s ht).mono ?_
          rintro e w5 ⟨rfl, hc5, hb5⟩
          have hh5 := (hb5.block wr.heap.size ⟨cell_lt (p := ⟨wr.heap.size, 0, none⟩) (by rw [cell_of_row _ _ _ _ _ _ HH4.out]; rfl), hbm⟩).trans HH4.out
          have x0 : w5.cell? ⟨wr.heap.size, 0, none⟩ = some (.int .i64 f) := by rw [cell_of_row _ _ _ _ _ _ hh5]; rfl
          have x1 : w5.cell? ⟨wr.heap.size, 1, none⟩ = some (.int .i64 t) := by rw [cell_of_row _ _ _ _ _ _ hh5]; rfl
          have x2 : w5.cell? ⟨wr.heap.size, 2, none⟩ = some (.string s) := by rw [cell_of_row _ _ _ _ _ _ hh5]; rfl
          have hbut := (But.of_below HB4.out).trans hb5
          have hd6 := HD.out.miss hlt HLJ.out HDJ.out ht hbut hgm h1 h2 h3 hc5
          have hrow5 := row_but HD.out.row hbut hgm
          obtain ⟨⟨fi, ti, si⟩, hmi⟩ : ∃ l, M[i]? = some l := ⟨_, List.getElem?_eq_getElem (by rw [HD.out.len]; omega)⟩
          obtain ⟨y0, y1, y2⟩ := row_cells hrow5 HD.out.len.symm hmi
          have hfr : ∀ o, w5.frozen? ⟨gg, o, none⟩ = false := fun o => by
            obtain ⟨cur, _, _, hh, _⟩ := row_open hrow5
            exact frozen_of_row _ _ _ _ _ hh
          have v0 := hfr (i * 3)
          have v1 := hfr (i * 3 + 1)
          have v2 := hfr (i * 3 + 2)
          have HD6 := Lib.hid hd6
          have hi0 : (0 : Int) ≤ (i : Int) := by omega
          have hi1 : (i : Int) < (q : Int) := by omega
          clear hc5 hb5 hd6 hbut hrow5 hmi hfr z0 z1 z2 hh5
          go_wp2_with fail
          go_roundw
          case rel => exact ⟨i + 1, j + 1, _, i64_eq (by omega), i64_eq (by omega), by omega, by omega, HD6.out⟩
          case measure => simp [intOf]; omega
      · obtain rfl : j = q := by omega
        have hdr : M.drop j = [] := List.drop_eq_nil_of_le (by rw [HD.out.len]; omega)
        have hLt : L.take j = L := List.take_of_length_le (by rw [← HQ.out]; omega)
        have htk := HD.out.tk
        rw [hLt] at htk
        have hcu := HD.out.cu
        rw [hdr, List.append_nil, htk] at hcu
        have hfl : i = (L.filter (kp to)).length := by
          rw [← htk, List.length_take, HD.out.len]; omega
        have hrow := HD.out.row
        have hkk : ∀ x, x < (j - i) * 3 → (wr.cell? ⟨gg, i * 3 + x, none⟩).isSome = true := fun x hx => by
          obtain ⟨cur, _, _, hh, _, _, hsz, _⟩ := row_open hrow
          rw [cell_of_row _ _ _ _ _ _ hh, Array.getElem?_eq_getElem (by rw [hsz]; omega)]
          rfl
        have hff : ∀ x, x < (j - i) * 3 → wr.frozen? ⟨gg, i * 3 + x, none⟩ = false := fun x _ => by
          obtain ⟨cur, _, _, hh, _⟩ := row_open hrow
          exact frozen_of_row _ _ _ _ _ hh
        have hcl : ∀ ty, (Builtin.clear_ #[52] ty #[.slice (some ⟨gg, i * 3, none⟩) (j - i) (cap - i)]).run Try.prog wr = .ok (.tuple #[]) (wr.setCells gg (i * 3) (lets (List.replicate (j - i) lz))) := fun ty => clearN wr gg (i * 3) (j - i) (cap - i) ty (by omega) hkk hff
        have hlay := row_lay (M' := M.take i ++ List.replicate (j - i) lz) (o := i * 3) (vs := lets (List.replicate (j - i) lz)) hrow HD.out.len.symm (by rw [List.length_append, List.length_take, List.length_replicate, HD.out.len]; omega)
          (by rw [lets_length, List.length_replicate]; omega) (by rw [lets_append, lets_take, List.drop_eq_nil_of_le (by rw [lets_length, lets_length, List.length_replicate, HD.out.len]; omega), List.append_nil])
        have hsh := row_short (k := i) hlay (by rw [List.length_append, List.length_take, List.length_replicate, HD.out.len]; omega) (by omega)
        have htt : (M.take i ++ List.replicate (j - i) lz).take i = L.filter (kp to) := by
          rw [← htk, List.take_append_of_le_length (by rw [List.length_take, HD.out.len]; omega), List.take_take, Nat.min_self]
        rw [htt] at hsh
        have HSH := Lib.hid hsh
        have HCU := Lib.hid (hcu.setCells (i * 3) (lets (List.replicate (j - i) lz)) h1 h2 h3 (Ne.symm hgm))
        have HTW := Lib.hid (HD.out.two.trans (But2.setCells wr (i * 3) (lets (List.replicate (j - i) lz))))
        have HFL := Lib.hid hfl
        have hne0 : ¬ cap = i := by omega
        have hij2 : i ≤ j := by omega
        have hic : i ≤ cap := by omega
        clear hdr hLt htk hcu hfl hrow hkk hff hlay hsh htt
        go_wp2_with fail
        go_ret
        exact ⟨i, HFL.out, rfl, HSH.out, HCU.out, HTW.out⟩
end Go.Proofs.Ytflaghnbbfdamaa
