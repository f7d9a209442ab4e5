/-
  The function Crash of package disk.
-/
import Derived.Test.YtgcghdinccdphaaOpsE
import Derived.Laws.BitsAllLaws
import Derived.Laws.BitsLemmas
namespace Go.Proofs.Ytgcghdinccdphaa
open Go.RowKit

/-! ### the plain law of a crash -/
/-- the last byte is another one -/
def lastXor (l : List UInt8) (x : UInt8) : List UInt8 := l.set (l.length - 1) (l.getD (l.length - 1) 0 ^^^ x)
theorem lastXor_length (l : List UInt8) (x : UInt8) : (lastXor l x).length = l.length := by simp [lastXor]
/-- how many of the first n files have bytes that are not sure -/
def cnt (F : Nat → List UInt8) (S : Nat → Nat) : Nat → Nat
  | 0 => 0
  | n + 1 => cnt F S n + (if S n = (F n).length then 0 else 1)
/-- how many bytes survive -/
def lives (F : Nat → List UInt8) (S : Nat → Nat) (L : List Int) (k : Nat) : Nat := if cnt F S k < L.length then (max 0 (L.getD (cnt F S k) 0)).toNat % ((F k).length - S k + 1) else 0
def crashed (F : Nat → List UInt8) (S : Nat → Nat) (L : List Int) (x : UInt8) (k : Nat) : List UInt8 :=
  if S k = (F k).length then F k else if lives F S L k = 0 then (F k).take (S k) else lastXor ((F k).take (S k + lives F S L k)) x
def crashF (F : Nat → List UInt8) (S : Nat → Nat) (L : List Int) (x : UInt8) (n : Nat) : Nat → List UInt8 := fun i => if i < n then crashed F S L x i else F i
def crashS (F : Nat → List UInt8) (S : Nat → Nat) (L : List Int) (x : UInt8) (n : Nat) : Nat → Nat := fun i => if i < n then (crashed F S L x i).length else S i
theorem step_fun {α : Type} (f h : Nat → α) (n : Nat) : upd (fun i => if i < n then f i else h i) n (f n) = (fun i => if i < n + 1 then f i else h i) := by
  funext i
  show (if i = n then f n else if i < n then f i else h i) = if i < n + 1 then f i else h i
  by_cases e : i = n
  · subst e; simp
  · rw [if_neg e]
    by_cases e2 : i < n
    · rw [if_pos e2, if_pos (by omega)]
    · rw [if_neg e2, if_neg (by omega)]
theorem crashF_succ (F : Nat → List UInt8) (S : Nat → Nat) (L : List Int) (x : UInt8) (n : Nat) : upd (crashF F S L x n) n (crashed F S L x n) = crashF F S L x (n + 1) := step_fun _ _ _
theorem crashS_succ (F : Nat → List UInt8) (S : Nat → Nat) (L : List Int) (x : UInt8) (n : Nat) : upd (crashS F S L x n) n (crashed F S L x n).length = crashS F S L x (n + 1) := step_fun (fun i => (crashed F S L x i).length) _ _
theorem crashF_at (F : Nat → List UInt8) (S : Nat → Nat) (L : List Int) (x : UInt8) (n : Nat) : crashF F S L x n n = F n := by unfold crashF; rw [if_neg (Nat.lt_irrefl n)]
theorem crashS_at (F : Nat → List UInt8) (S : Nat → Nat) (L : List Int) (x : UInt8) (n : Nat) : crashS F S L x n n = S n := by unfold crashS; rw [if_neg (Nat.lt_irrefl n)]
theorem crash_same (F : Nat → List UInt8) (S : Nat → Nat) (L : List Int) (x : UInt8) (n : Nat) (h : S n = (F n).length) : crashF F S L x (n + 1) = crashF F S L x n ∧ crashS F S L x (n + 1) = crashS F S L x n := by
  have e : crashed F S L x n = F n := by unfold crashed; rw [if_pos h]
  constructor
  · rw [← crashF_succ, e]
    have := upd_self (crashF F S L x n) n
    rw [crashF_at] at this
    exact this
  · rw [← crashS_succ, e, ← h]
    have := upd_self (crashS F S L x n) n
    rw [crashS_at] at this
    exact this

theorem crash_step (F : Nat → List UInt8) (S : Nat → Nat) (L : List Int) (x : UInt8) (k : Nat) {l : List UInt8} {s : Nat} (h : crashed F S L x k = l) (hl : l.length = s) :
    upd (crashF F S L x k) k l = crashF F S L x (k + 1) ∧ upd (crashS F S L x k) k s = crashS F S L x (k + 1) := by
  subst hl; subst h
  exact ⟨crashF_succ F S L x k, crashS_succ F S L x k⟩
theorem Kept.from_drewN {N : Nat → Prop} {w w' : World} {n : Nat} (h : Kept N w w') : Kept N (w.drewN n) w' := ⟨h.os, h.tape, h.output, h.size, h.block⟩

/-! ### numbers in memory -/
/-- a slice that reads as a list of numbers, in blocks that are not the disk's -/
def Ints (w : World) (N : Nat → Prop) (v : Value) (L : List Int) : Prop :=
  ∃ a c, v = .slice a L.length c ∧ L.length ≤ c ∧ c ≤ maxLen ∧ (∀ x ∈ L, -9223372036854775808 ≤ x ∧ x ≤ 9223372036854775807) ∧
    (L = [] ∨ ∃ b o, a = some ⟨b, o, none⟩ ∧ N b ∧ ∀ j, j < L.length → w.cell? ⟨b, o + j, none⟩ = some (.int .i64 (L.getD j 0)))
theorem Ints.kept {w w' : World} {N : Nat → Prop} {v : Value} {L : List Int} (h : Ints w N v L) (hk : Kept N w w') : Ints w' N v L := by
  obtain ⟨a, c, h1, h2, h3, h4, h5⟩ := h
  refine ⟨a, c, h1, h2, h3, h4, ?_⟩
  rcases h5 with h5 | ⟨b, o, h5, h6, h7⟩
  · exact .inl h5
  · exact .inr ⟨b, o, h5, h6, fun j hj => (World.cell?_of_block (a := ⟨b, o + j, none⟩) (hk.block b h6)).trans (h7 j hj)⟩
theorem Ints.more {w : World} {N N' : Nat → Prop} {v : Value} {L : List Int} (h : Ints w N v L) (hN : ∀ b, N b → N' b) : Ints w N' v L := by
  obtain ⟨a, c, h1, h2, h3, h4, h5⟩ := h
  refine ⟨a, c, h1, h2, h3, h4, ?_⟩
  rcases h5 with h5 | ⟨b, o, h5, h6, h7⟩
  · exact .inl h5
  · exact .inr ⟨b, o, h5, hN b h6, h7⟩
theorem Ints.nil (w : World) (N : Nat → Prop) : Ints w N (.slice none 0 0) [] := ⟨none, 0, rfl, Nat.le_refl _, Nat.zero_le _, by simp, .inl rfl⟩

theorem Ints.cons {w : World} {N : Nat → Prop} {a : Option Addr} {m c j : Nat} {L : List Int} (h : Ints w N (.slice a m c) (L.drop j)) (hj : j < L.length) :
    1 ≤ m ∧ m ≤ c ∧ c ≤ 9223372036854775807 ∧ ∃ b o, a = some ⟨b, o, none⟩ ∧ w.cell? ⟨b, o, none⟩ = some (.int .i64 (L.getD j 0)) ∧ (-9223372036854775808 ≤ L.getD j 0 ∧ L.getD j 0 ≤ 9223372036854775807) ∧
      (c = 1 → Ints w N (.slice (some ⟨b, o, none⟩) 0 0) (L.drop (j + 1))) ∧ (c ≠ 1 → Ints w N (.slice (some ⟨b, o + 1, none⟩) (m - 1) (c - 1)) (L.drop (j + 1))) := by
  obtain ⟨a', c', h1, h2, h3, h4, h5⟩ := h
  injection h1 with e1 e2 e3
  subst e1; subst e3
  unfold maxLen at h3
  have hl : (L.drop j).length = L.length - j := List.length_drop
  have hd : L.drop j = L.getD j 0 :: L.drop (j + 1) := by
    rw [List.drop_eq_getElem_cons hj, List.getD_eq_getElem?_getD, List.getElem?_eq_getElem hj]
    rfl
  have hl2 : (L.drop (j + 1)).length = L.length - (j + 1) := List.length_drop
  obtain ⟨b, o, rfl, hN, hc⟩ := h5.resolve_left (by rw [hd]; simp)
  have h0 := hc 0 (by omega)
  rw [Nat.add_zero, hd] at h0
  have hwf : ∀ x ∈ L.drop (j + 1), -9223372036854775808 ≤ x ∧ x ≤ 9223372036854775807 := fun x hx => h4 x (by rw [hd]; exact List.mem_cons_of_mem _ hx)
  refine ⟨by omega, by omega, by omega, b, o, rfl, h0, h4 _ (by rw [hd]; exact List.mem_cons_self ..), ?_, ?_⟩
  · intro e
    have hn : L.drop (j + 1) = [] := List.eq_nil_of_length_eq_zero (by omega)
    rw [hn]
    exact ⟨some ⟨b, o, none⟩, 0, rfl, Nat.le_refl _, Nat.zero_le _, by simp, .inl rfl⟩
  · intro e
    refine ⟨some ⟨b, o + 1, none⟩, c - 1, by rw [hl2, e2, hl]; congr 1, by omega, by unfold maxLen; omega, hwf, .inr ⟨b, o + 1, rfl, hN, fun i hi => ?_⟩⟩
    have := hc (i + 1) (by omega)
    rw [hd, List.getD_cons_succ] at this
    rw [← this]
    congr 2
    omega
theorem Ints.over {w : World} {N : Nat → Prop} {a : Option Addr} {m c j : Nat} {L : List Int} (h : Ints w N (.slice a m c) (L.drop j)) (hj : ¬ j < L.length) : m = 0 ∧ Ints w N (.slice a m c) (L.drop (j + 1)) := by
  have e1 : L.drop j = [] := List.drop_eq_nil_of_le (by omega)
  have e2 : L.drop (j + 1) = [] := List.drop_eq_nil_of_le (by omega)
  rw [e1] at h
  rw [e2]
  refine ⟨?_, h⟩
  obtain ⟨_, _, h1, _⟩ := h
  injection h1
theorem zero_of {K d P : Int} (h : K % d = P) (h0 : K = 0) : 0 = P := by rw [← h, h0, Int.zero_emod]
theorem emod_nat (K : Int) (d : Nat) (h : 0 ≤ K) : K % ((d : Nat) : Int) = ((K.toNat % d : Nat) : Int) := by
  obtain ⟨n, rfl⟩ : ∃ n : Nat, K = n := ⟨K.toNat, by omega⟩
  rw [Int.toNat_natCast, Int.natCast_emod]

/-- a byte of a file is another one -/
theorem Dk.poke {w : World} {g r : Nat} {N : Nat → Prop} {V : Nat → Value} {F : Nat → List UInt8} {S : Nat → Nat} (h : Dk w g N V r F S) {k b n c j : Nat} (hk : k < 256) (hV : V k = .slice (some ⟨b, 0, none⟩) n c) (hn : n = (F k).length) (y : UInt8) :
    Dk (w.setCell ⟨b, j, none⟩ (.int .u8 y.toNat)) g N V r (upd F k ((F k).set j y)) S ∧ Kept N w (w.setCell ⟨b, j, none⟩ (.int .u8 y.toNat)) := by
  have hob : (V k).ownBlock = some b := by rw [hV]; rfl
  have hbg : b ≠ g := fun e => own_block_ne h hk (by rw [hob, e])
  have hbN : ¬ N b := h.mines k b hk hob
  have hg : ∀ o, (⟨b, j, none⟩ : Addr) ≠ ⟨g, o, none⟩ := fun o e => hbg (by injection e)
  have hown := h.own k hk
  rw [hV, ← hn] at hown
  have hst := (World.ownsRow.stored hown j (.int .u8 y.toNat)).1
  refine ⟨⟨?_, ?_, ?_, ?_, ?_, h.apart, h.mine, h.mines, ?_, ?_, ?_, h.r1, h.r2⟩, (Kept.refl N w).setCell hbN _⟩
  · rw [World.cell?_setCell_other (h := hg _)]; exact h.room
  · intro i hi
    rw [World.cell?_setCell_other (h := hg _)]; exact h.byt i hi
  · intro i hi
    rw [World.cell?_setCell_other (h := hg _)]; exact h.sur i hi
  · intro o
    rw [World.frozen?_setCell]; exact h.free o
  · intro i hi
    by_cases e : i = k
    · subst e
      rw [upd_same, List.length_set, hV, ← hn]
      have e2 : cellsOf ((F i).set j y) = (cellsOf (F i)).set j (.int .u8 y.toNat) := by unfold cellsOf; rw [List.map_set]
      rw [e2]
      exact hst
    · rw [upd_other _ _ _ _ e]
      refine own_move (h.own i hi) fun b2 e2 => Below.heap_setCell w _ _ b2 ?_
      show b2 ≠ b
      intro e3
      subst e3
      rcases h.apart i k hi hk e with h1 | h1
      · rw [h1] at e2; cases e2
      · exact h1 (e2.trans hob.symm)
  · intro x hx
    have := h.lt x hx
    simp [World.setCell]
    omega
  · intro i hi
    by_cases e : i = k
    · subst e; rw [upd_same, List.length_set]; exact h.sure i hi
    · rw [upd_other _ _ _ _ e]; exact h.sure i hi
  · rw [total_congr (upd F k ((F k).set j y)) F 256 (fun i _ => by
      by_cases e : i = k
      · subst e; rw [upd_same, List.length_set]
      · rw [upd_other _ _ _ _ e])]
    exact h.fits

set_option maxRecDepth 100000 in
set_option maxHeartbeats 3200000 in
/-- Crash -/
theorem crash_ok {g r : Nat} {N : Nat → Prop} {F : Nat → List UInt8} {S : Nat → Nat} {w : World} (h : Disk w g N r F S) {kv : Value} {L : List Int} (hL : Ints w N kv L) (turn : Int) (x : UInt8) (hx : x = UInt8.ofNat (turn % 256).toNat) :
    Calls Try.prog 12 #[.pointer (some ⟨g, 0, none⟩), kv, .int .i64 turn] w fun e w' => e = .returned (.int .i64 0) ∧ Disk w' g N r (crashF F S L x 256) (crashS F S L x 256) ∧ Kept N w w' := by
  obtain ⟨V, h⟩ := h
  have HO := Lib.hid (of_ok g r h.r1 0 (by omega) w h.room)
  have H := Lib.hid (show Disk w g N r (crashF F S L x 0) (crashS F S L x 0) from ⟨V, h⟩)
  have HI := Lib.hid hL
  have HX := Lib.hid hx
  obtain ⟨ka, kn, kc, hkv⟩ : ∃ a n c, kv = .slice a n c := by obtain ⟨a, c, h1, _⟩ := hL; exact ⟨_, _, _, h1⟩
  subst hkv
  clear h hL hx
  go_enter Try.func12, Try.ntmps12
  go_wp2_with fail
  refine (HO.out).mono ?_
  rintro e w1 ⟨rfl, rfl⟩
  go_wp2_with fail
  go_loopw [1, 14] (fun v i wr => ∃ k : Nat, k ≤ 256 ∧ i = .int .i64 k ∧ Hid (Ints wr N v (L.drop (cnt F S k))) ∧ Hid (Disk wr g N r (crashF F S L x k) (crashS F S L x k)) ∧ Hid (Kept N w wr)) (fun _ i _ => 256 - (intOf i).toNat)
  case atStart => exact ⟨0, by omega, rfl, HI.out, H.out, Kept.refl _ _⟩
  case round =>
    obtain ⟨k, hk, rfl, HL, HD, HK⟩ := hrel
    by_cases hlt : k < 256
    · obtain ⟨V, HV⟩ : ∃ V, Hid (Dk wr g N V r (crashF F S L x k) (crashS F S L x k)) := HD.out
      have hb := HV.out.byt k hlt
      have hs := HV.out.sur k hlt
      have hlen := HV.out.len hlt
      have hsl := HV.out.sure k hlt
      obtain ⟨a, c, hV, hc1, hc2, hown⟩ := HV.out.slice hlt
      rw [crashF_at] at hV hc1 hown hlen hsl
      rw [crashS_at] at hs hsl
      rw [hV] at hb
      have hf1 := HV.out.free (1 + k * 2)
      have hf2 := HV.out.free (1 + k * 2 + 1)
      have hr2 := HV.out.r2
      have hcnt : cnt F S (k + 1) = cnt F S k + (if S k = (F k).length then 0 else 1) := rfl
      by_cases hloose : S k = (F k).length
      · obtain ⟨hF, hS⟩ := crash_same F S L x k hloose
        rw [if_pos hloose] at hcnt
        rw [hloose] at hs
        have HF := Lib.hid hF
        have HS := Lib.hid hS
        have HC := Lib.hid hcnt
        clear hF hS hcnt hV hloose hsl hown hc1 hc2
        generalize (F k).length = ln at *
        go_wp2_with fail
        go_quiet (fail)
        go_wp2_with fail
        go_roundw
        case rel => exact ⟨k + 1, by omega, i64_eq (by omega), by rw [HC.out]; exact HL.out, by rw [HF.out, HS.out]; exact HD.out.drewN _, HK.out.drewN _⟩
        case measure => simp [intOf]; omega
      · rw [if_neg hloose] at hcnt
        have hsl2 : S k < (F k).length := by omega
        obtain ⟨P, hP⟩ : ∃ P, P = lives F S L k := ⟨_, rfl⟩
        have hcr : crashed F S L x k = if P = 0 then (F k).take (S k) else lastXor ((F k).take (S k + P)) x := by
          rw [hP]; unfold crashed; rw [if_neg hloose]
        have HCR := Lib.hid hcr
        have HC := Lib.hid hcnt
        have hPle : P ≤ (F k).length - S k := by
          rw [hP]
          unfold lives
          split
          · have := Nat.mod_lt ((max 0 (L.getD (cnt F S k) 0)).toNat) (show 0 < (F k).length - S k + 1 by omega)
            omega
          · omega
        have hPin : cnt F S k < L.length → P = (max 0 (L.getD (cnt F S k) 0)).toNat % ((F k).length - S k + 1) := by
          intro h; rw [hP]; unfold lives; rw [if_pos h]
        have hPout : ¬ cnt F S k < L.length → P = 0 := by
          intro h; rw [hP]; unfold lives; rw [if_neg h]
        have HPI := Lib.hid hPin
        have HPO := Lib.hid hPout
        have HVE := Lib.hid hV
        have HOWN := Lib.hid hown
        have hdec : (((F k).length : Int) - (S k : Int) == 0) = false := by rw [beq_eq_false_iff_ne]; omega
        clear hcr hcnt hP hPin hPout hV hown hloose
        obtain ⟨ln, hln⟩ : ∃ ln, ln = (F k).length := ⟨_, rfl⟩
        obtain ⟨sk, hsk⟩ : ∃ sk, sk = S k := ⟨_, rfl⟩
        rw [← hln] at hb hlen hsl hsl2 hc1 HOWN HVE HPI hPle hdec
        rw [← hsk] at hs hsl hsl2 HCR HPI hPle hdec
        have HLN := Lib.hid hln
        have HSK := Lib.hid hsk
        clear hln hsk
        obtain ⟨a1, m1, c1, hv1⟩ : ∃ a m c, u1 = .slice a m c := by obtain ⟨a1, c1, h1, _⟩ := HL.out; exact ⟨_, _, _, h1⟩
        subst hv1
        go_wp2_with fail
        go_quiet (fail)
        go_upto_if 36 with (fail)
        go_cut [1, 10] (fun v p wx => p = .int .i64 P ∧ Hid (Ints wx N v (L.drop (cnt F S (k + 1)))) ∧ wr.drewN nq = wx)
        case first =>
          by_cases hin : cnt F S k < L.length
          · obtain ⟨m0, m1c, mc, b1, o1, rfl, hc0, hkb, ht1, ht2⟩ := HL.out.cons hin
            have hP := HPI.out hin
            rw [← HC.out] at ht1 ht2
            have HT1 := Lib.hid ht1
            have HT2 := Lib.hid ht2
            have hmod := emod_nat (max 0 (L.getD (cnt F S k) 0)) (ln - sk + 1) (by omega)
            rw [← hP] at hmod
            generalize L.getD (cnt F S k) 0 = K0 at *
            have e1 : ((ln : Int) - (sk : Int) + 1) = ((ln - sk + 1 : Nat) : Int) := by omega
            rw [← e1] at hmod
            have HMOD := Lib.hid hmod
            clear ht1 ht2 hP hmod e1
            by_cases hK : K0 < 0
            · have hv := HMOD.out
              rw [show max 0 K0 = 0 by omega, Int.zero_emod] at hv
              have HE := Lib.hid hv
              clear hv
              by_cases hc1' : c1 = 1
              · subst hc1'
                obtain rfl : m1 = 1 := by omega
                go_wp2_with fail
                all_goals
                  go_meet
                  exact ⟨i64_eq (by first | exact HE.out | exact zero_of HE.out (by omega)), (HT1.out (by trivial)).kept ((Kept.refl N wr).drewN _), rfl⟩
              · go_wp2_with fail
                all_goals
                  go_meet
                  exact ⟨i64_eq (by first | exact HE.out | exact zero_of HE.out (by omega)), (HT2.out hc1').kept ((Kept.refl N wr).drewN _), rfl⟩
            · have hv := HMOD.out
              rw [show max 0 K0 = K0 by omega] at hv
              have HE := Lib.hid hv
              clear hv
              by_cases hc1' : c1 = 1
              · subst hc1'
                obtain rfl : m1 = 1 := by omega
                go_wp2_with fail
                all_goals
                  go_meet
                  exact ⟨i64_eq (by first | exact HE.out | exact zero_of HE.out (by omega)), (HT1.out (by trivial)).kept ((Kept.refl N wr).drewN _), rfl⟩
              · go_wp2_with fail
                all_goals
                  go_meet
                  exact ⟨i64_eq (by first | exact HE.out | exact zero_of HE.out (by omega)), (HT2.out hc1').kept ((Kept.refl N wr).drewN _), rfl⟩
          · obtain ⟨rfl, hn⟩ := HL.out.over hin
            have hP := HPO.out hin
            subst hP
            rw [← HC.out] at hn
            go_wp2_with fail
            go_meet
            exact ⟨rfl, hn.kept ((Kept.refl N wr).drewN _), rfl⟩
        case rest =>
        obtain ⟨rfl, HL2, rfl⟩ := hcut
        go_wp2_with fail
        go_region
        have hq : Dk (wr.drewN (nq + 1)) g N V r (crashF F S L x k) (crashS F S L x k) := HV.out.drewN _
        have hfk : crashF F S L x k k = F k := crashF_at F S L x k
        have hsk2 : crashS F S L x k k = S k := crashS_at F S L x k
        have hl : ((F k).take (sk + P)).length = sk + P := by rw [List.length_take, ← HLN.out]; omega
        have hvo : V k = .slice a ln c := HVE.out
        obtain ⟨hput, hkp⟩ := Dk.put (w1 := wr.drewN (nq + 1)) (v := .slice a (sk + P) c) (l := (F k).take (sk + P)) hq hlt (World.grownBy.refl _ _)
          (by
            have ho := hq.own k hlt
            rw [hfk, hvo, ← HLN.out] at ho
            rw [hl]
            exact own_take ho (by omega))
          (by rw [hvo]; left; cases a <;> rfl)
          (by rw [hsk2, ← HSK.out, hl]; omega)
          (by
            have h1 := total_upd (crashF F S L x k) k 256 ((F k).take (sk + P))
            rw [if_pos hlt, if_pos hlt, hl, hfk, ← HLN.out] at h1
            have h2 := hq.fits
            omega)
        have hv2 : upd V k (.slice a (sk + P) c) k = .slice a (sk + P) c := upd_same _ _ _
        have hcb := hput.byt k hlt
        have hcs := hput.sur k hlt
        rw [hv2] at hcb
        rw [hsk2, ← HSK.out] at hcs
        have hg1 := hput.free (1 + k * 2 + 1)
        have HP := Lib.hid hput
        have HKP := Lib.hid (((Kept.refl N wr).drewN (nq + 1)).trans hkp)
        have HV2 := Lib.hid hv2
        have HFK := Lib.hid hfk
        have HSK2 := Lib.hid hsk2
        have HLL := Lib.hid hl
        clear hput hkp hv2 hq hfk hsk2 hl hvo hb hs hf1 hf2
        generalize (wr.drewN (nq + 1)).setCell ⟨g, 1 + k * 2, none⟩ (.slice a (sk + P) c) = w2 at *
        by_cases hP0 : P = 0
        · subst hP0
          have hcr := HCR.out
          rw [if_pos rfl] at hcr
          have hmk := HP.out.mark hlt (s := sk) (by rw [upd_same, HLL.out]; omega)
          obtain ⟨hF, hS⟩ := crash_step F S L x k hcr (s := sk) (by have := HLL.out; rw [Nat.add_zero] at this; exact this)
          simp only [Nat.add_zero] at hmk
          rw [hF, hS] at hmk
          have HM := Lib.hid hmk
          clear hmk hcr hF hS
          go_wp2_with fail
          go_roundw
          case rel => exact ⟨k + 1, by omega, i64_eq (by omega), HL2.out.kept (HKP.out.trans HM.out.2).from_drewN, ⟨_, HM.out.1⟩, HK.out.trans (HKP.out.trans HM.out.2)⟩
          case measure => simp [intOf]; omega
        · obtain ⟨b, rfl⟩ : ∃ b, a = some ⟨b, 0, none⟩ := by
            rcases HOWN.out with ⟨_, _, h0⟩ | ⟨b, h0, _⟩
            · omega
            · exact ⟨b, h0⟩
          have hcr := HCR.out
          rw [if_neg hP0] at hcr
          obtain ⟨l, hle⟩ : ∃ l, l = (F k).take (sk + P) := ⟨_, rfl⟩
          have hll : l.length = sk + P := by rw [hle]; exact HLL.out
          have hown2 := HP.out.own k hlt
          rw [upd_same, upd_same, ← hle, hll] at hown2
          have hbyte := hown2.cellAt (sk + P - 1) (by omega)
          have hcell2 : (cellsOf l)[sk + P - 1]? = some (.int .u8 (l.getD (sk + P - 1) 0).toNat) := by
            unfold cellsOf
            rw [List.getElem?_map, List.getElem?_eq_getElem (by omega), List.getD_eq_getElem?_getD, List.getElem?_eq_getElem (by omega)]
            rfl
          rw [hcell2] at hbyte
          have hbf := hown2.frozenAt (sk + P - 1)
          have i0 : (0 : Int) ≤ ((sk : Int) + (P : Int) - 1) := by omega
          have i1 : ((sk : Int) + (P : Int) - 1) < (sk : Int) + (P : Int) := by omega
          clear hcell2 hown2
          have hlx : crashed F S L x k = l.set (sk + P - 1) (l.getD (sk + P - 1) 0 ^^^ x) := by
            rw [hcr, ← hle]; unfold lastXor; rw [hll]
          rw [← hle] at HP
          have hpk := HP.out.poke hlt HV2.out (j := sk + P - 1) (by rw [upd_same]; exact hll.symm) (l.getD (sk + P - 1) 0 ^^^ x)
          rw [upd_same] at hpk
          have hFF : upd (upd (crashF F S L x k) k l) k (l.set (sk + P - 1) (l.getD (sk + P - 1) 0 ^^^ x)) = crashF F S L x (k + 1) := by
            rw [← hlx, ← crashF_succ]
            funext i
            unfold upd
            split <;> rfl
          rw [hFF] at hpk
          obtain ⟨hpk1, hpk2⟩ := hpk
          have hmk := hpk1.mark hlt (s := sk + P) (by
            unfold crashF
            rw [if_pos (Nat.lt_succ_self k), hlx, List.length_set, hll]
            exact Nat.le_refl _)
          rw [(crash_step F S L x k hlx (s := sk + P) (by rw [List.length_set, hll])).2] at hmk
          have HBIT : Hid (bits .xor .u8 ((l.getD (sk + P - 1) 0).toNat : Int) (turn % 256) = ((l.getD (sk + P - 1) 0 ^^^ x).toNat : Nat)) := by
            have e : turn % 256 = ((x.toNat : Nat) : Int) := by
              rw [HX.out, UInt8.toNat_ofNat']
              omega
            rw [e, u8_xor_nat _ _ (UInt8.toNat_lt _) x.toNat_lt, UInt8.toNat_xor]
            exact rfl
          have hcell3 := hpk1.byt k hlt
          rw [HV2.out] at hcell3
          have hfr3 := hpk1.free (1 + k * 2 + 1)
          have hcs3 := hpk1.sur k hlt
          rw [HSK2.out, ← HSK.out] at hcs3
          rw [Int.natCast_add] at hmk
          have HM := Lib.hid hmk
          have HPK2 := Lib.hid hpk2
          clear hmk hpk1 hpk2 hFF hlx hcr hle
          generalize l.getD (sk + P - 1) 0 = cb at *
          generalize cb ^^^ x = yb at *
          go_wp2_with fail
          go_region
          rw [HBIT.out]
          have hcell4 : (w2.setCell ⟨b, sk + P - 1, none⟩ (.int .u8 yb.toNat)).drew.cell? ⟨g, 1 + k * 2, none⟩ = some (.slice (some ⟨b, 0, none⟩) (sk + P) c) := hcell3
          have hcs4 : (w2.setCell ⟨b, sk + P - 1, none⟩ (.int .u8 yb.toNat)).drew.cell? ⟨g, 1 + k * 2 + 1, none⟩ = some (.int .i64 sk) := hcs3
          have hfr4 : (w2.setCell ⟨b, sk + P - 1, none⟩ (.int .u8 yb.toNat)).drew.frozen? ⟨g, 1 + k * 2 + 1, none⟩ = false := hfr3
          clear hcell3 hcs3 hfr3 hcb hcs hbyte hbf hg1
          go_wp2_with fail
          go_roundw
          case rel => exact ⟨k + 1, by omega, i64_eq (by omega), HL2.out.kept (HKP.out.trans (HPK2.out.trans HM.out.2.drew)).from_drewN, ⟨_, HM.out.1.drew⟩, HK.out.trans (HKP.out.trans (HPK2.out.trans HM.out.2.drew))⟩
          case measure => simp [intOf]; omega
    · obtain rfl : k = 256 := by omega
      go_wp2_with fail
      go_ret
      exact ⟨rfl, HD.out, HK.out⟩
end Go.Proofs.Ytgcghdinccdphaa
