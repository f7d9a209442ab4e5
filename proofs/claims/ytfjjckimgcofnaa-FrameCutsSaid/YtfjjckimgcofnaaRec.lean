/-
  Plain law: records as lists of bytes: what Put, Take and Scan answer, and what follows: a record is taken whatever stands behind; cut records are not; one byte turned is told; what is scanned, put again, is the bytes. No program in sight.
-/
import Derived.Test.YtfjjckimgcofnaaCrc
namespace Go.Proofs.Ytfjjckimgcofnaa.Rec

def le4 (n : Nat) : List UInt8 := [UInt8.ofNat n, UInt8.ofNat (n / 256), UInt8.ofNat (n / 65536), UInt8.ofNat (n / 16777216)]
def num4 (l : List UInt8) : Nat := (l.getD 0 0).toNat + 256 * (l.getD 1 0).toNat + 65536 * (l.getD 2 0).toNat + 16777216 * (l.getD 3 0).toNat
def sum (n : List UInt8) (s : List UInt8) : List UInt8 := le4 (Crc.crc (n ++ s))
def putText (s : List UInt8) : List UInt8 := 82 :: (le4 s.length ++ (le4 (Crc.crc (le4 s.length ++ s)) ++ s))
def take (s : List UInt8) : List UInt8 × Nat × Nat :=
  if s = [] then ([], 0, 5) else
  if s.getD 0 0 ≠ 82 then ([], 0, 40) else
  if s.length < 9 then ([], 0, 5) else
  if 262144 < num4 (s.drop 1) then ([], 0, 40) else
  if s.length < 9 + num4 (s.drop 1) then ([], 0, 5) else
  if num4 (s.drop 5) ≠ Crc.crc ((s.drop 1).take 4 ++ (s.drop 9).take (num4 (s.drop 1))) then ([], 0, 40) else
  ((s.drop 9).take (num4 (s.drop 1)), 9 + num4 (s.drop 1), 0)
def scanF : Nat → List UInt8 → List (List UInt8) × Nat
  | 0, _ => ([], 0)
  | f + 1, s => if (take s).2.2 = 0 then ((take s).1 :: (scanF f (s.drop (take s).2.1)).1, (take s).2.1 + (scanF f (s.drop (take s).2.1)).2) else ([], 0)
def scan (s : List UInt8) : List (List UInt8) × Nat := scanF (s.length + 1) s

theorem le4_length (n : Nat) : (le4 n).length = 4 := rfl
theorem num4_le4 (n : Nat) (h : n < 4294967296) (r : List UInt8) : num4 (le4 n ++ r) = n := by
  unfold num4 le4
  simp [List.getD]
  omega
theorem putText_length (s : List UInt8) : (putText s).length = 9 + s.length := by
  unfold putText; simp [le4_length]; omega

theorem u8_toNat_ofNat_self (b : UInt8) : UInt8.ofNat b.toNat = b := by simp

theorem le4_num4 (a b c d : UInt8) (r : List UInt8) : le4 (num4 (a :: b :: c :: d :: r)) = [a, b, c, d] := by
  have ha := a.toNat_lt; have hb := b.toNat_lt; have hc := c.toNat_lt; have hd := d.toNat_lt
  have e (x : UInt8) (n : Nat) (h : n % 256 = x.toNat) : UInt8.ofNat n = x := by
    apply UInt8.toNat_inj.1
    rw [UInt8.toNat_ofNat']; exact h
  unfold num4 le4
  simp only [List.getD, List.getElem?_cons_zero, List.getElem?_cons_succ, Option.getD_some]
  rw [e a _ (by omega), e b _ (by omega), e c _ (by omega), e d _ (by omega)]
theorem num4_lt (l : List UInt8) : num4 l < 4294967296 := by
  unfold num4
  have h (x : UInt8) : x.toNat < 256 := x.toNat_lt
  have h0 := h (l.getD 0 0); have h1 := h (l.getD 1 0); have h2 := h (l.getD 2 0); have h3 := h (l.getD 3 0)
  omega

/-- the parts of a text that begins with a record's head -/
theorem take_head (n : Nat) (hn : n < 4294967296) (c : List UInt8) (hc : c.length = 4) (r : List UInt8) :
    take (82 :: (le4 n ++ (c ++ r))) =
      if 262144 < n then ([], 0, 40) else if r.length < n then ([], 0, 5) else if num4 c ≠ Crc.crc (le4 n ++ r.take n) then ([], 0, 40) else (r.take n, 9 + n, 0) := by
  have hl : (82 :: (le4 n ++ (c ++ r))).length = 9 + r.length := by simp [le4_length, hc]; omega
  have d1 : (82 :: (le4 n ++ (c ++ r))).drop 1 = le4 n ++ (c ++ r) := rfl
  have d5 : (82 :: (le4 n ++ (c ++ r))).drop 5 = c ++ r := rfl
  have d9 : (82 :: (le4 n ++ (c ++ r))).drop 9 = r := by
    show (c ++ r).drop 4 = r
    rw [← hc, List.drop_left]
  have n4 : num4 (c ++ r) = num4 c := by
    match c, hc with
    | [x, y, z, t], _ => rfl
  have t4 : (le4 n ++ (c ++ r)).take 4 = le4 n := rfl
  have g0 : (82 :: (le4 n ++ (c ++ r))).getD 0 0 = 82 := rfl
  unfold take
  rw [if_neg (by simp), g0, if_neg (by simp), hl, if_neg (by omega), d1, num4_le4 n hn, d5, d9, n4, t4]
  by_cases h1 : 262144 < n
  · rw [if_pos h1, if_pos h1]
  · rw [if_neg h1, if_neg h1]
    by_cases h2 : r.length < n
    · rw [if_pos h2, if_pos (by omega)]
    · rw [if_neg h2, if_neg (by omega)]

theorem take_put (s tail : List UInt8) (h : s.length ≤ 262144) : take (putText s ++ tail) = (s, 9 + s.length, 0) := by
  have e : putText s ++ tail = 82 :: (le4 s.length ++ (le4 (Crc.crc (le4 s.length ++ s)) ++ (s ++ tail))) := by
    unfold putText; simp only [List.cons_append, List.append_assoc]
  have n4 : num4 (le4 (Crc.crc (le4 s.length ++ s))) = Crc.crc (le4 s.length ++ s) := by
    have := num4_le4 _ (Crc.crc_lt (le4 s.length ++ s)) []
    rwa [List.append_nil] at this
  rw [e, take_head _ (by omega) _ (le4_length _), if_neg (by omega), if_neg (by simp), List.take_left, n4, if_neg (by simp)]

theorem nine (s : List UInt8) (h : 9 ≤ s.length) : ∃ x0 x1 x2 x3 x4 x5 x6 x7 x8 r, s = x0 :: x1 :: x2 :: x3 :: x4 :: x5 :: x6 :: x7 :: x8 :: r := by
  have c (l : List UInt8) (n : Nat) (h : n + 1 ≤ l.length) : ∃ x r, l = x :: r ∧ n ≤ r.length := by
    cases l with
    | nil => simp at h
    | cons x r => exact ⟨x, r, rfl, by simpa using h⟩
  obtain ⟨x0, s0, rfl, h0⟩ := c s 8 h
  obtain ⟨x1, s1, rfl, h1⟩ := c s0 7 h0
  obtain ⟨x2, s2, rfl, h2⟩ := c s1 6 h1
  obtain ⟨x3, s3, rfl, h3⟩ := c s2 5 h2
  obtain ⟨x4, s4, rfl, h4⟩ := c s3 4 h3
  obtain ⟨x5, s5, rfl, h5⟩ := c s4 3 h4
  obtain ⟨x6, s6, rfl, h6⟩ := c s5 2 h5
  obtain ⟨x7, s7, rfl, h7⟩ := c s6 1 h6
  obtain ⟨x8, s8, rfl, h8⟩ := c s7 0 h7
  exact ⟨x0, x1, x2, x3, x4, x5, x6, x7, x8, s8, rfl⟩
/-- whatever is taken: the record that was there -/
theorem take_record (s : List UInt8) (h : (take s).2.2 = 0) :
    (take s).1.length ≤ 262144 ∧ (take s).2.1 = 9 + (take s).1.length ∧ (take s).2.1 ≤ s.length ∧ putText (take s).1 = s.take (take s).2.1 := by
  unfold take at h ⊢
  split at h
  · simp at h
  split at h
  · simp at h
  split at h
  · simp at h
  split at h
  · simp at h
  split at h
  · simp at h
  split at h
  · simp at h
  rename_i h1 h2 h3 h4 h5 h6
  rw [if_neg h1, if_neg h2, if_neg h3, if_neg h4, if_neg h5, if_neg h6]
  have hn : ((s.drop 9).take (num4 (s.drop 1))).length = num4 (s.drop 1) := by rw [List.length_take, List.length_drop]; omega
  refine ⟨by rw [hn]; omega, by rw [hn], by show 9 + num4 (s.drop 1) ≤ s.length; omega, ?_⟩
  show putText ((s.drop 9).take (num4 (s.drop 1))) = s.take (9 + num4 (s.drop 1))
  unfold putText
  rw [hn]
  obtain ⟨x0, x1, x2, x3, x4, x5, x6, x7, x8, r, rfl⟩ := nine s (by omega)
  · have hx0 : x0 = 82 := by
      simp only [List.getD, List.getElem?_cons_zero, Option.getD_some, ne_eq, Decidable.not_not] at h2
      exact h2
    have e1 : le4 (num4 ((x0 :: x1 :: x2 :: x3 :: x4 :: x5 :: x6 :: x7 :: x8 :: r).drop 1)) = [x1, x2, x3, x4] := le4_num4 _ _ _ _ _
    have e2 : le4 (num4 ((x0 :: x1 :: x2 :: x3 :: x4 :: x5 :: x6 :: x7 :: x8 :: r).drop 5)) = [x5, x6, x7, x8] := le4_num4 _ _ _ _ _
    have h6' := Classical.not_not.1 h6
    have e3 : ((x0 :: x1 :: x2 :: x3 :: x4 :: x5 :: x6 :: x7 :: x8 :: r).drop 1).take 4 = [x1, x2, x3, x4] := rfl
    have e4 : (x0 :: x1 :: x2 :: x3 :: x4 :: x5 :: x6 :: x7 :: x8 :: r).drop 9 = r := rfl
    rw [e3, e4] at h6'
    rw [e1, e4, ← h6', e2, hx0]
    generalize num4 _ = n
    rw [show 9 + n = n + 1 + 1 + 1 + 1 + 1 + 1 + 1 + 1 + 1 by omega]
    rfl

/-! ### scans -/
theorem scanF_more (f : Nat) : ∀ (s : List UInt8) (g : Nat), s.length < f → s.length < g → scanF f s = scanF g s := by
  induction f with
  | zero => intro s g h _; omega
  | succ f ih =>
    intro s g hf hg
    cases g with
    | zero => omega
    | succ g =>
      simp only [scanF]
      by_cases h : (take s).2.2 = 0
      · obtain ⟨h1, h2, h3, _⟩ := take_record s h
        have hl : (s.drop (take s).2.1).length < f := by rw [List.length_drop]; omega
        have hl2 : (s.drop (take s).2.1).length < g := by rw [List.length_drop]; omega
        rw [if_pos h, if_pos h, ih _ g hl hl2]
      · rw [if_neg h, if_neg h]
theorem scan_yes (s : List UInt8) (h : (take s).2.2 = 0) :
    scan s = ((take s).1 :: (scan (s.drop (take s).2.1)).1, (take s).2.1 + (scan (s.drop (take s).2.1)).2) := by
  obtain ⟨h1, h2, h3, _⟩ := take_record s h
  have e : scanF s.length (s.drop (take s).2.1) = scan (s.drop (take s).2.1) := by
    unfold scan
    exact scanF_more _ _ _ (by rw [List.length_drop]; omega) (by omega)
  have e0 : scan s = if (take s).2.2 = 0 then ((take s).1 :: (scanF s.length (s.drop (take s).2.1)).1, (take s).2.1 + (scanF s.length (s.drop (take s).2.1)).2) else ([], 0) := rfl
  rw [e0, if_pos h, e]
theorem scan_no (s : List UInt8) (h : (take s).2.2 ≠ 0) : scan s = ([], 0) := by
  have e0 : scan s = if (take s).2.2 = 0 then ((take s).1 :: (scanF s.length (s.drop (take s).2.1)).1, (take s).2.1 + (scanF s.length (s.drop (take s).2.1)).2) else ([], 0) := rfl
  rw [e0, if_neg h]
theorem scan_put (s tail : List UInt8) (h : s.length ≤ 262144) : scan (putText s ++ tail) = (s :: (scan tail).1, 9 + s.length + (scan tail).2) := by
  have ht := take_put s tail h
  have h0 : (take (putText s ++ tail)).2.2 = 0 := by rw [ht]
  have hd : (putText s ++ tail).drop (9 + s.length) = tail := by rw [← putText_length, List.drop_left]
  rw [scan_yes _ h0, ht]
  show (s :: (scan ((putText s ++ tail).drop (9 + s.length))).1, 9 + s.length + (scan ((putText s ++ tail).drop (9 + s.length))).2) = _
  rw [hd]

/-- what is scanned, put again -/
theorem scan_again (m : Nat) : ∀ (s : List UInt8), s.length ≤ m → (scan s).2 ≤ s.length ∧ ((scan s).1.map putText).flatten = s.take (scan s).2 ∧ ∀ x ∈ (scan s).1, x.length ≤ 262144 := by
  induction m with
  | zero =>
    intro s hs
    have : s = [] := List.length_eq_zero_iff.1 (by omega)
    subst this
    rw [scan_no _ (by decide)]
    exact ⟨by decide, rfl, by simp⟩
  | succ m ih =>
    intro s hs
    by_cases h : (take s).2.2 = 0
    · obtain ⟨h1, h2, h3, h4⟩ := take_record s h
      obtain ⟨i1, i2, i3⟩ := ih (s.drop (take s).2.1) (by rw [List.length_drop]; omega)
      rw [List.length_drop] at i1
      rw [scan_yes s h]
      refine ⟨by show (take s).2.1 + _ ≤ _; omega, ?_, ?_⟩
      · show (putText (take s).1 :: List.map putText (scan (s.drop (take s).2.1)).1).flatten = s.take ((take s).2.1 + (scan (s.drop (take s).2.1)).2)
        rw [List.flatten_cons, i2, h4, List.take_add]
      · intro x hx
        rcases List.mem_cons.1 hx with rfl | hx
        · exact h1
        · exact i3 x hx
    · rw [scan_no s h]
      exact ⟨by simp, rfl, by simp⟩

/-! ### a record that is not whole -/
theorem take_short (s : List UInt8) (k : Nat) (hs : s.length ≤ 262144) (hk : k < 9 + s.length) : (take ((putText s).take k)).2.2 ≠ 0 := by
  intro h
  obtain ⟨h1, h2, h3, h4⟩ := take_record _ h
  have hl : ((putText s).take k).length = k := by rw [List.length_take, putText_length]; omega
  rw [hl] at h3
  -- the length that stands in the head is the payload's
  have hk9 : 9 ≤ k := by omega
  have e : (putText s).take k = 82 :: (le4 s.length ++ (le4 (Crc.crc (le4 s.length ++ s)) ++ s.take (k - 9))) := by
    obtain ⟨j, rfl⟩ : ∃ j, k = j + 4 + 4 + 1 := ⟨k - 9, by omega⟩
    unfold putText
    rw [List.take_succ_cons, List.take_append, le4_length, List.take_of_length_le (by rw [le4_length]; omega), List.take_append, le4_length, List.take_of_length_le (by rw [le4_length]; omega),
      show j + 4 + 4 - 4 - 4 = j by omega, show j + 4 + 4 + 1 - 9 = j by omega]
  rw [e, take_head _ (by omega) _ (le4_length _)] at h
  rw [if_neg (by omega), if_pos (by rw [List.length_take]; omega)] at h
  simp at h

theorem scan_cut (l : List (List UInt8)) : ∀ (k : Nat), (∀ x ∈ l, x.length ≤ 262144) → k ≤ ((l.map putText).flatten).length →
    ∃ m, m ≤ l.length ∧ (((l.take m).map putText).flatten).length ≤ k ∧ (m < l.length → k < (((l.take (m + 1)).map putText).flatten).length) ∧
      scan (((l.map putText).flatten).take k) = (l.take m, (((l.take m).map putText).flatten).length) := by
  induction l with
  | nil =>
    intro k _ hk
    refine ⟨0, by simp, by simp, by simp, ?_⟩
    simp only [List.map_nil, List.flatten_nil, List.take_nil]
    exact scan_no _ (by decide)
  | cons x r ih =>
    intro k hx hk
    have hxl : x.length ≤ 262144 := hx x (List.mem_cons_self ..)
    simp only [List.map_cons, List.flatten_cons, List.length_append, putText_length] at hk
    by_cases hw : 9 + x.length ≤ k
    · obtain ⟨m, m1, m2, m3, m4⟩ := ih (k - (9 + x.length)) (fun y hy => hx y (List.mem_cons_of_mem _ hy)) (by omega)
      refine ⟨m + 1, by simp; omega, by rw [List.take_succ_cons, List.map_cons, List.flatten_cons, List.length_append, putText_length]; omega, ?_, ?_⟩
      · intro hm
        have := m3 (by simpa using hm)
        simp only [List.take_succ_cons, List.map_cons, List.flatten_cons, List.length_append, putText_length]
        omega
      · simp only [List.map_cons, List.flatten_cons, List.take_succ_cons, List.length_append, putText_length]
        rw [List.take_append, putText_length, List.take_of_length_le (by rw [putText_length]; omega), scan_put _ _ hxl, m4]
    · refine ⟨0, by simp, by simp, ?_, ?_⟩
      · intro _
        simp [putText_length]; omega
      · simp only [List.map_cons, List.flatten_cons, List.take_zero, List.map_nil, List.flatten_nil, List.length_nil]
        rw [List.take_append, putText_length, show k - (9 + x.length) = 0 by omega, List.take_zero, List.append_nil]
        exact scan_no _ (take_short x k hxl (by omega))

/-! ### one byte is another one -/
theorem num4_set (c : List UInt8) (hc : c.length = 4) (i : Nat) (hi : i < 4) (e : UInt8) (he : e ≠ 0) : num4 (c.set i (c.getD i 0 ^^^ e)) ≠ num4 c := by
  match c, hc with
  | [x, y, z, t], _ =>
    have hx := x.toNat_lt; have hy := y.toNat_lt; have hz := z.toNat_lt; have ht := t.toNat_lt
    have ne (a : UInt8) : (a ^^^ e).toNat ≠ a.toNat := by
      intro h
      have h1 := UInt8.toNat_inj.1 h
      have h2 : a ^^^ (a ^^^ e) = a ^^^ a := by rw [h1]
      rw [← UInt8.xor_assoc, UInt8.xor_self, UInt8.zero_xor] at h2
      exact he h2
    have lt (a : UInt8) : (a ^^^ e).toNat < 256 := (a ^^^ e).toNat_lt
    have nx := ne x; have ny := ne y; have nz := ne z; have nt := ne t
    have lx := lt x; have ly := lt y; have lz := lt z; have ltt := lt t
    match i, hi with
    | 0, _ => simp only [num4, List.getD, List.set_cons_zero, List.getElem?_cons_zero, List.getElem?_cons_succ, Option.getD_some]; omega
    | 1, _ => simp only [num4, List.getD, List.set_cons_zero, List.set_cons_succ, List.getElem?_cons_zero, List.getElem?_cons_succ, Option.getD_some]; omega
    | 2, _ => simp only [num4, List.getD, List.set_cons_zero, List.set_cons_succ, List.getElem?_cons_zero, List.getElem?_cons_succ, Option.getD_some]; omega
    | 3, _ => simp only [num4, List.getD, List.set_cons_zero, List.set_cons_succ, List.getElem?_cons_zero, List.getElem?_cons_succ, Option.getD_some]; omega

/-- one byte of a text, behind the third, is another one: the sums differ -/
theorem crc_set (l : List UInt8) (p : Nat) (hp : 3 ≤ p) (hpl : p < l.length) (e : UInt8) (he : e ≠ 0) : Crc.crc (l.set p (l.getD p 0 ^^^ e)) ≠ Crc.crc l := by
  obtain ⟨a, x0, x1, x2, x3, q, ha, rfl⟩ : ∃ a x0 x1 x2 x3 q, a.length = p - 3 ∧ l = a ++ x0 :: x1 :: x2 :: x3 :: q := by
    refine ⟨l.take (p - 3), l[p - 3], l[p - 3 + 1], l[p - 3 + 1 + 1], l[p - 3 + 1 + 1 + 1], l.drop (p - 3 + 1 + 1 + 1 + 1), by simp; omega, ?_⟩
    rw [← List.drop_eq_getElem_cons, ← List.drop_eq_getElem_cons, ← List.drop_eq_getElem_cons, ← List.drop_eq_getElem_cons, List.take_append_drop]
  obtain rfl : p = a.length + 3 := by omega
  intro h
  have e1 : (a ++ x0 :: x1 :: x2 :: x3 :: q).set (a.length + 3) ((a ++ x0 :: x1 :: x2 :: x3 :: q).getD (a.length + 3) 0 ^^^ e) = a ++ x0 :: x1 :: x2 :: (x3 ^^^ e) :: q := by
    simp [List.getD]
  rw [e1] at h
  have := (Crc.burst a q _ _ _ _ _ _ _ _ h).2.2.2
  have h2 : x3 ^^^ (x3 ^^^ e) = x3 ^^^ x3 := by rw [this]
  rw [← UInt8.xor_assoc, UInt8.xor_self, UInt8.zero_xor] at h2
  exact he h2

theorem set_mid (x : UInt8) (a c r : List UInt8) (ha : a.length = 4) (hc : c.length = 4) (k : Nat) (h5 : 5 ≤ k) (h9 : k < 9) :
    (∀ v, (x :: (a ++ (c ++ r))).set k v = x :: (a ++ (c.set (k - 5) v ++ r))) ∧ (x :: (a ++ (c ++ r))).getD k 0 = c.getD (k - 5) 0 := by
  obtain ⟨j, rfl⟩ : ∃ j, k = j + 4 + 1 := ⟨k - 5, by omega⟩
  have hj : j + 4 + 1 - 5 = j := by omega
  rw [hj]
  constructor
  · intro v
    rw [List.set_cons_succ, List.set_append, if_neg (by omega), ha, Nat.add_sub_cancel, List.set_append, if_pos (by omega)]
  · rw [List.getD, List.getElem?_cons_succ, List.getElem?_append_right (by omega), ha, Nat.add_sub_cancel, List.getElem?_append_left (by omega), List.getD]
theorem set_end (x : UInt8) (a c r : List UInt8) (ha : a.length = 4) (hc : c.length = 4) (k : Nat) (h9 : 9 ≤ k) :
    (∀ v, (x :: (a ++ (c ++ r))).set k v = x :: (a ++ (c ++ r.set (k - 9) v))) ∧ (x :: (a ++ (c ++ r))).getD k 0 = r.getD (k - 9) 0 := by
  obtain ⟨j, rfl⟩ : ∃ j, k = j + 4 + 4 + 1 := ⟨k - 9, by omega⟩
  have hj : j + 4 + 4 + 1 - 9 = j := by omega
  rw [hj]
  constructor
  · intro v
    rw [List.set_cons_succ, List.set_append, if_neg (by omega), ha, show j + 4 + 4 - 4 = j + 4 by omega, List.set_append, if_neg (by omega), hc, Nat.add_sub_cancel]
  · rw [List.getD, List.getElem?_cons_succ, List.getElem?_append_right (by omega), ha, show j + 4 + 4 - 4 = j + 4 by omega, List.getElem?_append_right (by omega), hc, Nat.add_sub_cancel, List.getD]

theorem take_told (s : List UInt8) (hs : s.length ≤ 262144) (k : Nat) (hk : k < 9 + s.length) (hk15 : k = 0 ∨ 5 ≤ k) (e : UInt8) (he : e ≠ 0) :
    take ((putText s).set k ((putText s).getD k 0 ^^^ e)) = ([], 0, 40) := by
  rcases hk15 with rfl | hk5
  · have e1 : (putText s).set 0 ((putText s).getD 0 0 ^^^ e) = (82 ^^^ e) :: (le4 s.length ++ (le4 (Crc.crc (le4 s.length ++ s)) ++ s)) := rfl
    have hne : (82 : UInt8) ^^^ e ≠ 82 := by
      intro h
      have h2 : (82 : UInt8) ^^^ (82 ^^^ e) = 82 ^^^ 82 := by rw [h]
      rw [← UInt8.xor_assoc, UInt8.xor_self, UInt8.zero_xor] at h2
      exact he h2
    rw [e1]
    unfold take
    rw [if_neg (by simp), if_pos (by simpa [List.getD] using hne)]
  · have n4 : num4 (le4 (Crc.crc (le4 s.length ++ s))) = Crc.crc (le4 s.length ++ s) := by
      have := num4_le4 _ (Crc.crc_lt (le4 s.length ++ s)) []
      rwa [List.append_nil] at this
    unfold putText
    by_cases h9 : k < 9
    · obtain ⟨e1, e2⟩ := set_mid 82 (le4 s.length) (le4 (Crc.crc (le4 s.length ++ s))) s (le4_length _) (le4_length _) k hk5 h9
      rw [e1, e2, take_head _ (by omega) _ (by rw [List.length_set]; exact le4_length _), if_neg (by omega), if_neg (by simp), List.take_length, if_pos]
      have := num4_set (le4 (Crc.crc (le4 s.length ++ s))) (le4_length _) (k - 5) (by omega) e he
      rw [n4] at this
      exact this
    · obtain ⟨e1, e2⟩ := set_end 82 (le4 s.length) (le4 (Crc.crc (le4 s.length ++ s))) s (le4_length _) (le4_length _) k (by omega)
      rw [e1, e2, take_head _ (by omega) _ (le4_length _), if_neg (by omega), if_neg (by simp), n4, if_pos]
      have hl : (s.set (k - 9) (s.getD (k - 9) 0 ^^^ e)).take s.length = s.set (k - 9) (s.getD (k - 9) 0 ^^^ e) := List.take_of_length_le (by rw [List.length_set]; exact Nat.le_refl _)
      rw [hl]
      have h := crc_set (le4 s.length ++ s) (k - 9 + 4) (by omega) (by rw [List.length_append, le4_length]; omega) e he
      have e3 : (le4 s.length ++ s).set (k - 9 + 4) ((le4 s.length ++ s).getD (k - 9 + 4) 0 ^^^ e) = le4 s.length ++ s.set (k - 9) (s.getD (k - 9) 0 ^^^ e) := by
        rw [List.set_append, if_neg (by rw [le4_length]; omega), le4_length, List.getD, List.getElem?_append_right (by rw [le4_length]; omega), le4_length, Nat.add_sub_cancel, List.getD]
      rw [e3] at h
      exact fun hx => h hx.symm
end Go.Proofs.Ytfjjckimgcofnaa.Rec
