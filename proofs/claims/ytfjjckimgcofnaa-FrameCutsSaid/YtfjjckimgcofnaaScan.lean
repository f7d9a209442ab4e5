/-
  The functions Scan of package frame and of the reference: at every string of at most 2^20 bytes they answer what Rec.scan answers for its bytes: a list of texts in memory of their own, and how many bytes. They write nothing that was there.
-/
import Derived.Test.YtfjjckimgcofnaaTake
import Derived.Deep.AppendLies
import Derived.Deep.LoopGhost
namespace Go.Proofs.Ytfjjckimgcofnaa
open Go.RowKit

/-- a variable of one cell -/
def Box (w : World) (b : Nat) (v : Value) (t : TypeId) : Prop := w.heap[b]? = some (.cells #[v] t (0, 0))
theorem Box.lt {w : World} {b : Nat} {v : Value} {t : TypeId} (h : Box w b v t) : b < w.heap.size := by
  rcases Nat.lt_or_ge b w.heap.size with hlt | hge
  · exact hlt
  · unfold Box at h; rw [Array.getElem?_eq_none hge] at h; cases h
theorem Box.cell {w : World} {b : Nat} {v : Value} {t : TypeId} (h : Box w b v t) : w.cell? ⟨b, 0, none⟩ = some v := by
  rw [cell_of_row w b 0 _ _ _ h]; rfl
theorem Box.free {w : World} {b : Nat} {v : Value} {t : TypeId} (h : Box w b v t) : w.frozen? ⟨b, 0, none⟩ = false := frozen_of_row w b 0 _ _ h
theorem Box.below {w w' : World} {b B : Nat} {v : Value} {t : TypeId} (h : Box w b v t) (hb : Below B w w') (hB : b < B) : Box w' b v t := (hb.block b hB).trans h
theorem Box.alloc {w : World} {b : Nat} {v : Value} {t : TypeId} (h : Box w b v t) (o : Obj) : Box (w.alloc o) b v t := (Below.heap_alloc w o b h.lt).trans h
theorem Box.set {w : World} {b : Nat} {v : Value} {t : TypeId} (h : Box w b v t) (u : Value) : Box (w.setCell ⟨b, 0, none⟩ u) b u t := by
  unfold Box
  rw [heap_setCell_same w b 0 _ _ u h]
  rfl
theorem Box.far {w : World} {b : Nat} {v : Value} {t : TypeId} (h : Box w b v t) {p : Addr} (hp : b ≠ p.block) (u : Value) : Box (w.setCell p u) b v t := (Below.heap_setCell w p u b hp).trans h
theorem Box.grown {w w' : World} {b : Nat} {v : Value} {t : TypeId} {row : Option Nat} (h : Box w b v t) (hg : w.grownBy w' row) (hr : some b ≠ row) : Box w' b v t := (hg.block b h.lt hr).trans h

/-- texts as cells -/
def strCells (L : List (List UInt8)) : List Value := L.map fun l => .string (txt l)
theorem own_below {w w' : World} {B : Nat} {e : TypeId} {size n : Nat} {v : Value} {xs : List Value} (h : w.ownsRow B e size v n xs) (hb : Below w.heap.size w w') : w'.ownsRow B e size v n xs := by
  refine ⟨h.1, ?_⟩
  rcases h.2 with h2 | ⟨g, cap, cur, hv, hg, hh, r⟩
  · exact .inl h2
  · have hlt : g < w.heap.size := by
      rcases Nat.lt_or_ge g w.heap.size with hlt | hge
      · exact hlt
      · rw [Array.getElem?_eq_none hge] at hh; cases hh
    exact .inr ⟨g, cap, cur, hv, hg, (hb.block g hlt).trans hh, r⟩
theorem own_base_le {w : World} {B B' : Nat} {e : TypeId} {size n : Nat} {v : Value} {xs : List Value} (h : w.ownsRow B e size v n xs) (hB : B' ≤ B) : w.ownsRow B' e size v n xs := by
  refine ⟨h.1, ?_⟩
  rcases h.2 with h2 | ⟨g, cap, cur, hv, hg, r⟩
  · exact .inl h2
  · exact .inr ⟨g, cap, cur, hv, Nat.le_trans hB hg, r⟩
theorem info9 : (Try.prog.info? 9).map (fun i => (i.zero, i.size, i.bytes)) = some (some (.string ByteArray.empty), 1, 16) := by kernel_rfl

/-- what the closure finds: the text, the place, the list -/
structure At (w : World) (b1 b2 b3 B : Nat) (s : ByteArray) (p : Nat) (v : Value) (L : List (List UInt8)) : Prop where
  text : Box w b1 (.string s) 9
  place : Box w b3 (.int .i64 p) 3
  list : Box w b2 v 29
  own : w.ownsRow B 9 1 v L.length (strCells L)
  base : B ≤ w.heap.size

set_option maxRecDepth 100000 in
set_option maxHeartbeats 1600000 in
/-- no record stands at the place -/
theorem next_no (b1 b2 b3 B : Nat) (s : ByteArray) (p : Nat) (v : Value) (L : List (List UInt8)) (w : World) (h : At w b1 b2 b3 B s p v L) (hs : s.size ≤ 1048576) (hp : p ≤ s.size)
    (ht : (Rec.take (s.data.toList.drop p)).2.2 ≠ 0) :
    Calls Try.prog 23 #[.pointer (some ⟨b1, 0, none⟩), .pointer (some ⟨b3, 0, none⟩), .pointer (some ⟨b2, 0, none⟩)] w fun e w' => e = .returned (.bool false) ∧ Below w.heap.size w w' := by
  have c1 := h.text.cell
  have c3 := h.place.cell
  have hsz : (s.extract p s.size).size = s.size - p := by rw [ByteArray.size_extract]; omega
  have cT : ∀ W, Calls Try.prog 12 #[.string (s.extract p s.size)] W fun e w' => e = took (s.data.toList.drop p) ∧ Below W.heap.size W w' := by
    intro W
    have := take_any (s.extract p s.size) (by rw [hsz]; unfold maxLen; omega) W
    rw [drop_ext] at this
    exact this
  obtain ⟨r, hr⟩ : ∃ r, r = Rec.take (s.data.toList.drop p) := ⟨_, rfl⟩
  have hT : took (s.data.toList.drop p) = .returned (.tuple #[.string (txt r.1), .int .i64 (r.2.1 : Nat), .int .i64 (r.2.2 : Nat)]) := by rw [hr]; rfl
  simp only [hT] at cT
  have CT := Lib.hid cT
  rw [← hr] at ht
  obtain ⟨t, n, e⟩ := r
  have he1 : ((e : Int) == 0) = false := by rw [beq_eq_false_iff_ne]; show ¬ (e : Int) = 0; have : e ≠ 0 := ht; omega
  have he2 : ((e : Int) != 0) = true := by rw [bne_iff_ne]; have : e ≠ 0 := ht; omega
  have he3 : (e == 0) = false := by rw [beq_eq_false_iff_ne]; exact ht
  clear cT hT hr ht hsz
  go_enter Try.func23, Try.ntmps23
  go_wp2_with fail
  refine (CT.out _).mono ?_
  rintro e w1 ⟨rfl, hb⟩
  go_wp2_with fail
  go_ret
  exact ⟨rfl, hb⟩

theorem scan_step (l : List UInt8) (p : Nat) (L : List (List UInt8)) (h : Rec.scan l = (L ++ (Rec.scan (l.drop p)).1, p + (Rec.scan (l.drop p)).2)) (hy : (Rec.take (l.drop p)).2.2 = 0) :
    Rec.scan l = ((L ++ [(Rec.take (l.drop p)).1]) ++ (Rec.scan (l.drop (p + (Rec.take (l.drop p)).2.1))).1, (p + (Rec.take (l.drop p)).2.1) + (Rec.scan (l.drop (p + (Rec.take (l.drop p)).2.1))).2) := by
  have hs := Rec.scan_yes _ hy
  rw [List.drop_drop] at hs
  rw [h, hs]
  simp only [List.append_assoc, List.singleton_append, Nat.add_assoc]
theorem scan_stop (l : List UInt8) (p : Nat) (L : List (List UInt8)) (h : Rec.scan l = (L ++ (Rec.scan (l.drop p)).1, p + (Rec.scan (l.drop p)).2)) (hn : (Rec.take (l.drop p)).2.2 ≠ 0) : Rec.scan l = (L, p) := by
  rw [h, Rec.scan_no _ hn]
  simp

set_option maxRecDepth 100000 in
set_option maxHeartbeats 1600000 in
/-- a record stands at the place -/
theorem next_yes (b1 b2 b3 B : Nat) (s : ByteArray) (p : Nat) (v : Value) (L : List (List UInt8)) (w : World) (h : At w b1 b2 b3 B s p v L) (hs : s.size ≤ 1048576) (hp : p ≤ s.size)
    (hL : L.length ≤ s.size) (hb12 : b1 < b2) (hb23 : b2 < b3) (hb3 : b3 < B)
    (ht : (Rec.take (s.data.toList.drop p)).2.2 = 0) :
    Calls Try.prog 23 #[.pointer (some ⟨b1, 0, none⟩), .pointer (some ⟨b3, 0, none⟩), .pointer (some ⟨b2, 0, none⟩)] w fun e w' => e = .returned (.bool true) ∧
      ∃ v', At w' b1 b2 b3 B s (p + (Rec.take (s.data.toList.drop p)).2.1) v' (L ++ [(Rec.take (s.data.toList.drop p)).1]) ∧ Below b1 w w' ∧ w.heap.size ≤ w'.heap.size := by
  have c1 := h.text.cell
  have c3 := h.place.cell
  have hsz : (s.extract p s.size).size = s.size - p := by rw [ByteArray.size_extract]; omega
  obtain ⟨r1, r2, r3, r4⟩ := Rec.take_record _ ht
  rw [List.length_drop] at r3
  have hlen : s.data.toList.length = s.size := by simp
  rw [hlen] at r3
  have cT : ∀ W, Calls Try.prog 12 #[.string (s.extract p s.size)] W fun e w' => e = took (s.data.toList.drop p) ∧ Below W.heap.size W w' := by
    intro W
    have := take_any (s.extract p s.size) (by rw [hsz]; unfold maxLen; omega) W
    rw [drop_ext] at this
    exact this
  obtain ⟨r, hr⟩ : ∃ r, r = Rec.take (s.data.toList.drop p) := ⟨_, rfl⟩
  have hT : took (s.data.toList.drop p) = .returned (.tuple #[.string (txt r.1), .int .i64 (r.2.1 : Nat), .int .i64 (r.2.2 : Nat)]) := by rw [hr]; rfl
  simp only [hT] at cT
  have CT := Lib.hid cT
  have HR := Lib.hid hr
  rw [← hr] at ht r2 r3
  obtain ⟨t, n, e⟩ := r
  have he : e = 0 := ht
  subst he
  have hn : p + n ≤ s.size := by have : n ≤ s.size - p := r3; omega
  obtain ⟨T, hT2⟩ : ∃ T, txt t = T := ⟨_, rfl⟩
  have HT2 := Lib.hid hT2
  simp only [hT2] at CT
  obtain ⟨i0, hi, hz0, hz1, hz2⟩ := info_parts info9
  clear cT hT hr ht hsz r1 r2 r3 r4 hlen hT2
  go_enter Try.func23, Try.ntmps23
  go_wp2_with fail
  refine (CT.out _).mono ?_
  rintro e w1 ⟨rfl, hb⟩
  have k1 := h.text.below hb h.text.lt
  have k3 := h.place.below hb h.place.lt
  have k2 := h.list.below hb h.list.lt
  have c2 := k2.cell
  have f2 := k2.free
  have hown : w1.ownsRow B 9 1 v L.length (strCells L) := own_below h.own hb
  have hbase : B ≤ w1.heap.size := Nat.le_trans h.base hb.size
  go_wp2_with (at_builtin; refine wpList_append_own _ rfl _ _ 29 rfl B 9 i0 (.string ByteArray.empty) 1 16 Try.underlying29 hi hz0 hz1 hz2 rfl (by decide) _ _ _ rfl (hown.alloc _) ⟨w1.heap.size, 0, none⟩ 1 1 [.string T] rfl rfl ?c1 ?c2 ?c3 ?c4 ?c5 ?_)
  case c1 => exact cell_one_new _ _ _
  case c2 => intro u hu; rw [List.mem_singleton.1 hu]; rfl
  case c3 => unfold maxLen; omega
  case c4 => omega
  case c5 => simp; omega
  intro v' w2 hown2 hgrow _
  have hob := own_base hown
  have far (b : Nat) (hlt : b < B) : some b ≠ v.ownBlock := fun e => by have := hob b e.symm; omega
  have m1 := (k1.alloc (.cells #[.string T] 9)).grown hgrow (far b1 (by omega))
  have m2 := (k2.alloc (.cells #[.string T] 9)).grown hgrow (far b2 (by omega))
  have m3 := (k3.alloc (.cells #[.string T] 9)).grown hgrow (far b3 hb3)
  have hbel2 : Below b1 w w2 := ((hb.mono (Nat.le_of_lt h.text.lt)).alloc (by have := k1.lt; omega) (.cells #[.string T] 9)).grown hgrow (by have := k1.lt; simp; omega) (fun g hg => by have := hob g hg; omega)
  have hsz2 : w1.heap.size + 1 ≤ w2.heap.size := by have := hgrow.size; simpa using this
  obtain ⟨g, cap, hv, hBg, hglt⟩ := World.ownsRow.form hown2 (by omega)
  subst hv
  have d2 := m2.cell
  have d3 := m3.cell
  have g2 := m2.free
  have g3 := m3.free
  have hwh := hb.size
  have hne : ¬ b2 = b3 := by omega
  have hne2 : ¬ b3 = b2 := by omega
  have HM1 := Lib.hid m1
  have HM2 := Lib.hid m2
  have HM3 := Lib.hid m3
  have HO := Lib.hid hown2
  have HB := Lib.hid hbel2
  clear m1 m2 m3 hown2 hbel2 hgrow far hob k1 k2 k3 c1 c2 c3 f2 hb hown h hi hz0 hz1 hz2
  go_wp2_with fail
  go_ret
  refine ⟨rfl, .slice (some ⟨g, 0, none⟩) (L.length + 1) cap, ?_, ?_, ?_⟩
  rw [← HR.out]
  · refine ⟨(HM1.out.far (fun e => by change b1 = b2 at e; omega) _).far (fun e => by change b1 = b3 at e; omega) _, ?_, (HM2.out.set _).far (fun e => hne e) _, ?_, ?_⟩
    · have hx := (HM3.out.far (p := ⟨b2, 0, none⟩) (fun e => hne2 e) (.slice (some ⟨g, 0, none⟩) (L.length + 1) cap)).set (.int .i64 ((p : Int) + (n : Int)))
      rw [← Int.natCast_add] at hx
      rw [← Int.natCast_add]
      exact hx
    · have hx := ownsRow_setCell_below (ownsRow_setCell_below HO.out (a := ⟨b2, 0, none⟩) (by show b2 < B; omega) (.slice (some ⟨g, 0, none⟩) (L.length + 1) cap)) (a := ⟨b3, 0, none⟩) hb3 (.int .i64 ((p : Int) + (n : Int)))
      rw [← HT2.out] at hx
      simpa [strCells] using hx
    · simp; omega
  · exact (HB.out.setCell (by show b1 ≤ b2; omega) _).setCell (by show b1 ≤ b3; omega) _
  · simp; omega

set_option maxRecDepth 100000 in
set_option maxHeartbeats 1600000 in
/-- Scan -/
theorem scan_any (s : ByteArray) (hs : s.size ≤ 1048576) (w : World) :
    Calls Try.prog 14 #[.string s] w fun e w' => ∃ v, e = .returned (.tuple #[v, .int .i64 ((Rec.scan s.data.toList).2 : Nat)]) ∧
      w'.ownsRow w.heap.size 9 1 v (Rec.scan s.data.toList).1.length (strCells (Rec.scan s.data.toList).1) ∧ Below w.heap.size w w' := by
  have hmf : ∀ (fn : Fn) (first cap : Array Value) (w : World), (Instr.makeFunc fn first cap).run Try.prog w = .ok (.func fn first cap) w := fun _ _ _ _ => rfl
  go_enter Try.func14, Try.ntmps14
  go_wp2_with fail
  have hat : At (((w.alloc (.cells #[.string s] 9)).alloc (.cells #[.slice none 0 0] 29)).alloc (.cells #[.int .i64 0] 3)) w.heap.size (w.heap.size + 1) (w.heap.size + 1 + 1) (w.heap.size + 1 + 1 + 1) s 0 (.slice none 0 0) [] := by
    refine ⟨?_, ?_, ?_, ⟨rfl, .inl ⟨rfl, rfl⟩⟩, by simp⟩
    · have h1 : Box (w.alloc (.cells #[.string s] 9)) w.heap.size (.string s) 9 := heap_alloc_new w _
      exact (h1.alloc _).alloc _
    · have := heap_alloc_new ((w.alloc (.cells #[.string s] 9)).alloc (.cells #[.slice none 0 0] 29)) (.cells #[.int .i64 0] 3)
      simpa [Box] using this
    · have h1 : Box ((w.alloc (.cells #[.string s] 9)).alloc (.cells #[.slice none 0 0] 29)) (w.heap.size + 1) (.slice none 0 0) 29 := heap_alloc2_new w _ _
      exact h1.alloc _
  have hbel : Below w.heap.size w (((w.alloc (.cells #[.string s] 9)).alloc (.cells #[.slice none 0 0] 29)).alloc (.cells #[.int .i64 0] 3)) :=
    (((Below.refl _ _).alloc (Nat.le_refl _) _).alloc (by simp) _).alloc (by simp; omega) _
  generalize ((w.alloc (.cells #[.string s] 9)).alloc (.cells #[.slice none 0 0] 29)).alloc (.cells #[.int .i64 0] 3) = w0 at *
  clear hmf
  have hscan : Rec.scan s.data.toList = ([] ++ (Rec.scan (s.data.toList.drop 0)).1, 0 + (Rec.scan (s.data.toList.drop 0)).2) := by simp
  go_loopg [] (s.size) (fun k wr => ∃ (p : Nat) (v : Value) (L : List (List UInt8)), At wr w.heap.size (w.heap.size + 1) (w.heap.size + 1 + 1) (w.heap.size + 1 + 1 + 1) s p v L ∧ p ≤ s.size ∧ L.length ≤ p ∧
      Hid (Rec.scan s.data.toList = (L ++ (Rec.scan (s.data.toList.drop p)).1, p + (Rec.scan (s.data.toList.drop p)).2)) ∧ Below w.heap.size w wr ∧ k = s.size - p)
  case atStart => exact ⟨0, .slice none 0 0, [], hat, by omega, by simp, hscan, hbel, by omega⟩
  case round =>
    clear hat hbel hscan
    obtain ⟨p, v, L, hat, hp, hL, HS, hbel, rfl⟩ := hrel
    by_cases ht : (Rec.take (s.data.toList.drop p)).2.2 = 0
    · have hy := next_yes _ _ _ _ s p v L wr hat hs hp (by omega) (by omega) (by omega) (by omega) ht
      have HY := Lib.hid hy
      have HT := Lib.hid ht
      clear hy ht
      go_wp2_with fail
      refine HY.out.mono ?_
      rintro e w1 ⟨rfl, v', hat', hb, hsz⟩
      have HA := Lib.hid hat'
      have HB := Lib.hid hb
      clear hat' hb
      go_wp2_with fail
      obtain ⟨r1, r2, r3, _⟩ := Rec.take_record _ HT.out
      have hd : (s.data.toList.drop p).length = s.size - p := by simp
      rw [hd] at r3
      go_roundg (s.size - (p + (Rec.take (s.data.toList.drop p)).2.1))
      case measure => omega
      case rel => exact ⟨p + (Rec.take (s.data.toList.drop p)).2.1, v', _, HA.out, by omega, by simp; omega, scan_step _ _ _ HS.out HT.out, hbel.trans HB.out, rfl⟩
    · have hn := next_no _ _ _ _ s p v L wr hat hs hp ht
      have HN := Lib.hid hn
      have HE := Lib.hid (scan_stop _ _ _ HS.out ht)
      obtain ⟨va, vn, vc, hv⟩ : ∃ a n c, v = .slice a n c := by
        rcases hat.own.2 with ⟨h, _⟩ | ⟨g, cap, _, h, _⟩
        · exact ⟨_, _, _, h⟩
        · exact ⟨_, _, _, h⟩
      subst hv
      clear hn ht
      go_wp2_with fail
      refine HN.out.mono ?_
      rintro e w1 ⟨rfl, hb⟩
      have k2 := hat.list.below hb hat.list.lt
      have k3 := hat.place.below hb hat.place.lt
      have c2 := k2.cell
      have f2 := k2.free
      have c3 := k3.cell
      have f3 := k3.free
      have HB := Lib.hid (hbel.trans (hb.mono (by have := hat.text.lt; omega)))
      have HO := Lib.hid (own_below hat.own hb)
      clear hb k2 k3 hat hbel
      go_wp2_with fail
      go_region
      all_goals
        go_wp2_with fail
        have q3 : ((w1.setCell ⟨w.heap.size + 1, 0, none⟩ (.slice va vn vc)).setCell ⟨w.heap.size + 1 + 1, 0, none⟩ (.int .i64 p)).cell? ⟨w.heap.size + 1 + 1, 0, none⟩ = some (.int .i64 p) :=
by
          have h : (w1.setCell ⟨w.heap.size + 1, 0, none⟩ (.slice va vn vc)).cell? ⟨w.heap.size + 1 + 1, 0, none⟩ = some (.int .i64 p) := by
            rw [World.cell?_setCell_other (h := by simp), c3]
          rw [World.cell?_setCell_same (h := h)]
        have q2 : ((w1.setCell ⟨w.heap.size + 1, 0, none⟩ (.slice va vn vc)).setCell ⟨w.heap.size + 1 + 1, 0, none⟩ (.int .i64 p)).cell? ⟨w.heap.size + 1, 0, none⟩ = some (.slice va vn vc) := by
          rw [World.cell?_setCell_other (h := by simp), World.cell?_setCell_same (h := c2)]
        have hown := (ownsRow_setCell_below (ownsRow_setCell_below HO.out (a := ⟨w.heap.size + 1, 0, none⟩) (by show w.heap.size + 1 < _; omega) (.slice va vn vc)) (a := ⟨w.heap.size + 1 + 1, 0, none⟩) (by show w.heap.size + 1 + 1 < _; omega) (.int .i64 p)).drew
        have hbel := ((HB.out.setCell (p := ⟨w.heap.size + 1, 0, none⟩) (by show w.heap.size ≤ w.heap.size + 1; omega) (.slice va vn vc)).setCell (p := ⟨w.heap.size + 1 + 1, 0, none⟩) (by show w.heap.size ≤ w.heap.size + 1 + 1; omega) (.int .i64 p)).drew
        refine bodyPost_ret (v := .tuple #[.slice va vn vc, .int .i64 p]) (by simp [results, Try.results14, go_sem, q2, q3]) rfl ⟨.slice va vn vc, ?_, ?_, hbel⟩
        · rw [HE.out]
        · rw [HE.out]
          exact own_base_le hown (by omega)
end Go.Proofs.Ytfjjckimgcofnaa
