/-
  Plain law: CRC-32C as a machine on numbers: linear, injective, by the table, bursts are told. No program in sight.
-/
namespace Go.Proofs.Ytfjjckimgcofnaa.Crc

def half (c : Nat) : Nat := if c % 2 = 1 then (c / 2) ^^^ 2197175160 else c / 2

def F (c : Nat) : Nat := half (half (half (half (half (half (half (half c)))))))

def run (c : Nat) : List UInt8 → Nat
  | [] => c
  | b :: r => run (F (c ^^^ b.toNat)) r

def crc (l : List UInt8) : Nat := run 4294967295 l ^^^ 4294967295

theorem run_append (l m : List UInt8) : ∀ c, run c (l ++ m) = run (run c l) m := by
  induction l with
  | nil => intro c; rfl
  | cons b r ih => intro c; exact ih _

theorem half_xor (a b : Nat) : half (a ^^^ b) = half a ^^^ half b := by
  have h1 : (a ^^^ b) % 2 = (a + b) % 2 := by
    have h := Nat.xor_mod_two_eq_one (a := a) (b := b)
    by_cases ha : a % 2 = 1 <;> by_cases hb : b % 2 = 1
    · have : ¬ (a ^^^ b) % 2 = 1 := fun hx => h.1 hx ⟨fun _ => hb, fun _ => ha⟩
      omega
    · have := h.2 (fun hx => hb (hx.1 ha)); omega
    · have := h.2 (fun hx => ha (hx.2 hb)); omega
    · have : ¬ (a ^^^ b) % 2 = 1 := fun hx => h.1 hx ⟨fun x => absurd x ha, fun x => absurd x hb⟩
      omega
  have h2 : (a ^^^ b) / 2 = a / 2 ^^^ b / 2 := Nat.xor_div_two
  unfold half
  rw [h1, h2]
  by_cases ha : a % 2 = 1 <;> by_cases hb : b % 2 = 1
  · rw [if_neg (by omega), if_pos ha, if_pos hb]
    rw [Nat.xor_assoc, ← Nat.xor_assoc 2197175160, Nat.xor_comm 2197175160 (b/2), Nat.xor_assoc (b/2), Nat.xor_self, Nat.xor_zero]
  · rw [if_pos (by omega), if_pos ha, if_neg hb, Nat.xor_assoc, Nat.xor_assoc, Nat.xor_comm (b/2)]
  · rw [if_pos (by omega), if_neg ha, if_pos hb, Nat.xor_assoc]
  · rw [if_neg (by omega), if_neg ha, if_neg hb]

theorem half_lt {c : Nat} (h : c < 4294967296) : half c < 4294967296 := by
  unfold half
  split
  · exact Nat.xor_lt_two_pow (n := 32) (by omega) (by omega)
  · omega

theorem half_zero {c : Nat} (h : c < 4294967296) (h0 : half c = 0) : c = 0 := by
  unfold half at h0
  split at h0
  · have : c / 2 = 2197175160 := by
      have h3 := congrArg (· ^^^ 2197175160) h0
      simp only [Nat.xor_assoc, Nat.xor_self, Nat.xor_zero, Nat.zero_xor] at h3
      exact h3
    omega
  · omega

theorem half_dbl (c : Nat) : half (2 * c) = c := by
  unfold half; rw [if_neg (by omega)]; omega

theorem F_xor (a b : Nat) : F (a ^^^ b) = F a ^^^ F b := by
  unfold F; simp only [half_xor]

theorem F_lt {c : Nat} (h : c < 4294967296) : F c < 4294967296 := by
  unfold F
  repeat (first | exact h | apply half_lt)

theorem F_zero {c : Nat} (h : c < 4294967296) (h0 : F c = 0) : c = 0 := by
  unfold F at h0
  have l1 := half_lt h
  have l2 := half_lt l1
  have l3 := half_lt l2
  have l4 := half_lt l3
  have l5 := half_lt l4
  have l6 := half_lt l5
  have l7 := half_lt l6
  exact half_zero h (half_zero l1 (half_zero l2 (half_zero l3 (half_zero l4 (half_zero l5 (half_zero l6 (half_zero l7 h0)))))))

theorem F_byte (c : Nat) : F (256 * c) = c := by
  unfold F
  have e : 256 * c = 2 * (2 * (2 * (2 * (2 * (2 * (2 * (2 * c))))))) := by omega
  rw [e]; simp only [half_dbl]

theorem F_of_zero : F 0 = 0 := by decide

theorem F_inj {a b : Nat} (ha : a < 4294967296) (hb : b < 4294967296) (h : F a = F b) : a = b := by
  have h1 : F (a ^^^ b) = 0 := by rw [F_xor, h, Nat.xor_self]
  have h2 := F_zero (Nat.xor_lt_two_pow (n := 32) ha hb) h1
  have h3 := congrArg (· ^^^ b) h2
  simp only [Nat.xor_assoc, Nat.xor_self, Nat.xor_zero, Nat.zero_xor] at h3
  exact h3

/-- a number is its high part xor its low byte -/
theorem split_byte (c : Nat) : c = (256 * (c / 256)) ^^^ (c % 256) := by
  have h : 256 * (c / 256) + c % 256 = c := Nat.div_add_mod c 256
  have h2 : (256 * (c / 256)) ^^^ (c % 256) = 256 * (c / 256) + c % 256 := by
    apply Nat.eq_of_testBit_eq
    intro i
    rw [Nat.testBit_xor, show 256 = 2 ^ 8 from rfl, Nat.testBit_two_pow_mul_add _ (Nat.mod_lt _ (by decide)), Nat.testBit_two_pow_mul, Nat.testBit_mod_two_pow]
    by_cases hi : i < 8
    · simp [hi, Nat.not_le.2 hi]
    · simp [hi, Nat.not_lt.1 hi]
  rw [h2, h]

/-- the step by the table -/
theorem F_table (c b : Nat) : F (c ^^^ b) = F ((c % 256) ^^^ b) ^^^ (c / 256) := by
  have e : c ^^^ b = (256 * (c / 256)) ^^^ ((c % 256) ^^^ b) := by
    rw [← Nat.xor_assoc, ← split_byte]
  rw [e, F_xor, F_byte, Nat.xor_comm]

theorem run_lt (l : List UInt8) : ∀ {c : Nat}, c < 4294967296 → run c l < 4294967296 := by
  induction l with
  | nil => intro c h; exact h
  | cons b r ih =>
    intro c h
    have := b.toNat_lt
    exact ih (F_lt (Nat.xor_lt_two_pow (n := 32) h (by omega)))

theorem crc_lt (l : List UInt8) : crc l < 4294967296 :=
  Nat.xor_lt_two_pow (n := 32) (run_lt l (by decide)) (by decide)

/-- same bytes behind: the states part iff they parted before -/
theorem run_inj (l : List UInt8) : ∀ {c d : Nat}, c < 4294967296 → d < 4294967296 → run c l = run d l → c = d := by
  induction l with
  | nil => intro c d _ _ h; exact h
  | cons b r ih =>
    intro c d hc hd h
    have hb := b.toNat_lt
    have h1 := F_inj (Nat.xor_lt_two_pow (n := 32) hc (by omega)) (Nat.xor_lt_two_pow (n := 32) hd (by omega)) (ih (F_lt (Nat.xor_lt_two_pow (n := 32) hc (by omega))) (F_lt (Nat.xor_lt_two_pow (n := 32) hd (by omega))) h)
    have h3 := congrArg (· ^^^ b.toNat) h1
    simp only [Nat.xor_assoc, Nat.xor_self, Nat.xor_zero] at h3
    exact h3

theorem xor_cancel {a b k : Nat} (h : a ^^^ k = b ^^^ k) : a = b := by
  have h3 := congrArg (· ^^^ k) h
  simp only [Nat.xor_assoc, Nat.xor_self, Nat.xor_zero] at h3
  exact h3

/-- the state is affine in the start and the text -/
theorem run_xor (l : List UInt8) : ∀ (m : List UInt8) (c d : Nat), l.length = m.length →
    run (c ^^^ d) (List.zipWith (· ^^^ ·) l m) = run c l ^^^ run d m := by
  induction l with
  | nil => intro m c d h; cases m with | nil => rfl | cons _ _ => simp at h
  | cons b r ih =>
    intro m c d h
    cases m with
    | nil => simp at h
    | cons e s =>
      have h1 := ih s (F (c ^^^ b.toNat)) (F (d ^^^ e.toNat)) (by simpa using h)
      have h2 := F_xor (c ^^^ b.toNat) (d ^^^ e.toNat)
      have h3 : c ^^^ b.toNat ^^^ (d ^^^ e.toNat) = c ^^^ d ^^^ (b ^^^ e).toNat := by
        rw [UInt8.toNat_xor, Nat.xor_assoc, Nat.xor_assoc, ← Nat.xor_assoc b.toNat, Nat.xor_comm b.toNat, Nat.xor_assoc d]
      rw [h3] at h2
      show run (F (c ^^^ d ^^^ (b ^^^ e).toNat)) (List.zipWith (· ^^^ ·) r s) = run (F (c ^^^ b.toNat)) r ^^^ run (F (d ^^^ e.toNat)) s
      rw [h2, h1]

end Go.Proofs.Ytfjjckimgcofnaa.Crc
namespace Go.Proofs.Ytfjjckimgcofnaa.Crc

theorem xor_self_left (a b : Nat) : a ^^^ (a ^^^ b) = b := by rw [← Nat.xor_assoc, Nat.xor_self, Nat.zero_xor]

/-- one byte fed into a state that is nought -/
theorem F_shift {x e : Nat} (hx : x < 4294967296) (he : e < 256) (h : F x = e) : x = 256 * e := by
  have : F x = F (256 * e) := by rw [F_byte, h]
  exact F_inj hx (by omega) this

/-- of two states, the one xor the other goes on alone -/
theorem run_diff (l m : List UInt8) (c d : Nat) (h : l.length = m.length) :
    run c l ^^^ run d m = run (c ^^^ d) (List.zipWith (· ^^^ ·) l m) := (run_xor l m c d h).symm

theorem xor_small (a b : Nat) (ha : a < 256) (hb : b < 16777216) : a ^^^ (256 * b) < 4294967296 :=
  Nat.xor_lt_two_pow (n := 32) (by omega) (by omega)

/-- the low byte of a number and what stands above it -/
theorem low_xor (a b : Nat) (ha : a < 256) : (a ^^^ (256 * b)) % 256 = a ∧ (a ^^^ (256 * b)) / 256 = b := by
  constructor
  · rw [show 256 = 2 ^ 8 from rfl, Nat.xor_mod_two_pow, Nat.mul_mod_right, Nat.xor_zero, Nat.mod_eq_of_lt ha]
  · rw [show 256 = 2 ^ 8 from rfl, Nat.xor_div_two_pow, Nat.mul_div_cancel_left _ (by decide), Nat.div_eq_of_lt ha, Nat.zero_xor]

/-- four bytes fed into nought come to nought: all are nought -/
theorem four_zero (e0 e1 e2 e3 : Nat) (h0 : e0 < 256) (h1 : e1 < 256) (h2 : e2 < 256) (h3 : e3 < 256)
    (h : F (F (F (F (0 ^^^ e0) ^^^ e1) ^^^ e2) ^^^ e3) = 0) : e0 = 0 ∧ e1 = 0 ∧ e2 = 0 ∧ e3 = 0 := by
  rw [Nat.zero_xor] at h
  have l0 : F e0 < 4294967296 := F_lt (by omega)
  have l0' : F e0 ^^^ e1 < 4294967296 := Nat.xor_lt_two_pow (n := 32) l0 (by omega)
  have l1 := F_lt l0'
  have l1' : F (F e0 ^^^ e1) ^^^ e2 < 4294967296 := Nat.xor_lt_two_pow (n := 32) l1 (by omega)
  have l2 := F_lt l1'
  have l2' : F (F (F e0 ^^^ e1) ^^^ e2) ^^^ e3 < 4294967296 := Nat.xor_lt_two_pow (n := 32) l2 (by omega)
  have a3 := F_zero l2' h
  have b3 : F (F (F e0 ^^^ e1) ^^^ e2) = e3 := xor_cancel (k := e3) (by rw [a3, Nat.xor_self])
  have a2 := F_shift l1' h3 b3
  have b2 : F (F e0 ^^^ e1) = e2 ^^^ (256 * e3) := xor_cancel (k := e2) (by rw [a2, Nat.xor_comm e2, Nat.xor_assoc, Nat.xor_self, Nat.xor_zero])
  have s2 : e2 ^^^ (256 * e3) < 65536 := Nat.xor_lt_two_pow (n := 16) (by omega) (by omega)
  have a1 : F e0 ^^^ e1 = 256 * (e2 ^^^ (256 * e3)) := F_inj l0' (by omega) (by rw [F_byte]; exact b2)
  have b1 : F e0 = e1 ^^^ (256 * (e2 ^^^ (256 * e3))) := xor_cancel (k := e1) (by rw [a1, Nat.xor_comm e1, Nat.xor_assoc, Nat.xor_self, Nat.xor_zero])
  have s1 : e1 ^^^ (256 * (e2 ^^^ (256 * e3))) < 16777216 := Nat.xor_lt_two_pow (n := 24) (by omega) (by omega)
  have a0 : e0 = 256 * (e1 ^^^ (256 * (e2 ^^^ (256 * e3)))) := F_inj (by omega) (by omega) (by rw [F_byte]; exact b1)
  have q1 : e1 ^^^ (256 * (e2 ^^^ (256 * e3))) = 0 := by omega
  have p1 := low_xor e1 (e2 ^^^ (256 * e3)) h1
  rw [q1] at p1
  have q2 : e2 ^^^ (256 * e3) = 0 := by omega
  have p2 := low_xor e2 e3 h2
  rw [q2] at p2
  omega

theorem four (p q r t : Nat) : (p ^^^ q) ^^^ (r ^^^ t) = (p ^^^ r) ^^^ (q ^^^ t) := by
  rw [Nat.xor_assoc, ← Nat.xor_assoc q, Nat.xor_comm q, Nat.xor_assoc r, ← Nat.xor_assoc]
theorem F_diff (x y e f : Nat) : F (x ^^^ e) ^^^ F (y ^^^ f) = F ((x ^^^ y) ^^^ (e ^^^ f)) := by
  rw [← F_xor, four x e y f]
theorem run_cons (c : Nat) (b : UInt8) (r : List UInt8) : run c (b :: r) = run (F (c ^^^ b.toNat)) r := rfl
attribute [local irreducible] F run
theorem burst_at (c : Nat) (hc : c < 4294967296) (q : List UInt8) (a0 a1 a2 a3 b0 b1 b2 b3 : UInt8) (h1 : run c (a0 :: a1 :: a2 :: a3 :: q) = run c (b0 :: b1 :: b2 :: b3 :: q)) :
    a0 = b0 ∧ a1 = b1 ∧ a2 = b2 ∧ a3 = b3 := by
  rw [run_cons, run_cons, run_cons, run_cons, run_cons, run_cons, run_cons, run_cons] at h1
  have byte (x : UInt8) : x.toNat < 256 := x.toNat_lt
  have s {c : Nat} (x : UInt8) (hc : c < 4294967296) : F (c ^^^ x.toNat) < 4294967296 := F_lt (Nat.xor_lt_two_pow (n := 32) hc (by have := byte x; omega))
  have h2 := run_inj q (s a3 (s a2 (s a1 (s a0 hc)))) (s b3 (s b2 (s b1 (s b0 hc)))) h1
  have h3 : F (F (F (F (0 ^^^ (a0.toNat ^^^ b0.toNat)) ^^^ (a1.toNat ^^^ b1.toNat)) ^^^ (a2.toNat ^^^ b2.toNat)) ^^^ (a3.toNat ^^^ b3.toNat)) = 0 := by
    have e0 : (0 : Nat) = c ^^^ c := (Nat.xor_self c).symm
    rw [e0, ← F_diff c c, ← F_diff (F (c ^^^ a0.toNat)), ← F_diff (F (F (c ^^^ a0.toNat) ^^^ a1.toNat)), ← F_diff (F (F (F (c ^^^ a0.toNat) ^^^ a1.toNat) ^^^ a2.toNat)), h2, Nat.xor_self]
    exact e0
  have x (a b : UInt8) : a.toNat ^^^ b.toNat < 256 := Nat.xor_lt_two_pow (n := 8) (byte a) (byte b)
  have h4 := four_zero _ _ _ _ (x a0 b0) (x a1 b1) (x a2 b2) (x a3 b3) h3
  have z (a b : UInt8) (h : a.toNat ^^^ b.toNat = 0) : a = b := by
    apply UInt8.toNat_inj.1
    exact xor_cancel (k := b.toNat) (by rw [h, Nat.xor_self])
  exact ⟨z _ _ h4.1, z _ _ h4.2.1, z _ _ h4.2.2.1, z _ _ h4.2.2.2⟩

theorem burst (p q : List UInt8) (a0 a1 a2 a3 b0 b1 b2 b3 : UInt8) (h : crc (p ++ a0 :: a1 :: a2 :: a3 :: q) = crc (p ++ b0 :: b1 :: b2 :: b3 :: q)) :
    a0 = b0 ∧ a1 = b1 ∧ a2 = b2 ∧ a3 = b3 := by
  have h1 := xor_cancel (a := run 4294967295 (p ++ a0 :: a1 :: a2 :: a3 :: q)) (b := run 4294967295 (p ++ b0 :: b1 :: b2 :: b3 :: q)) (k := 4294967295) h
  rw [run_append p (a0 :: a1 :: a2 :: a3 :: q), run_append p (b0 :: b1 :: b2 :: b3 :: q)] at h1
  exact burst_at _ (run_lt p (c := 4294967295) (by decide)) q a0 a1 a2 a3 b0 b1 b2 b3 h1

theorem zip_zeros (l : List UInt8) : List.zipWith (· ^^^ ·) l (List.replicate l.length 0) = l := by
  induction l with
  | nil => rfl
  | cons b r ih => simp only [List.length_cons, List.replicate_succ, List.zipWith_cons_cons, ih, UInt8.xor_zero]

/-- the sum of one text xor another one -/
theorem linear (a b : List UInt8) (h : a.length = b.length) :
    crc (List.zipWith (· ^^^ ·) a b) = crc a ^^^ crc b ^^^ crc (List.replicate a.length 0) := by
  have hl : (List.zipWith (· ^^^ ·) a b).length = a.length := by rw [List.length_zipWith, h, Nat.min_self]
  have h1 := run_xor (List.zipWith (· ^^^ ·) a b) (List.replicate a.length 0) (4294967295 ^^^ 4294967295) 4294967295 (by rw [hl, List.length_replicate])
  have h2 := run_xor a b 4294967295 4294967295 h
  have h3 := zip_zeros (List.zipWith (· ^^^ ·) a b)
  rw [hl] at h3
  rw [h3, h2, Nat.xor_self, Nat.zero_xor] at h1
  unfold crc
  rw [h1]
  generalize run 4294967295 a = x
  generalize run 4294967295 b = y
  generalize run 4294967295 (List.replicate a.length 0) = z
  generalize 4294967295 = k
  have e : x ^^^ k ^^^ (y ^^^ k) = x ^^^ y := by
    rw [Nat.xor_comm y k, Nat.xor_assoc, ← Nat.xor_assoc k, Nat.xor_self, Nat.zero_xor]
  rw [e, Nat.xor_assoc (x ^^^ y)]
end Go.Proofs.Ytfjjckimgcofnaa.Crc
