/-
  Plain law: the hash FNV-1a of 32 bits and its slot: behind whatever state the letters 97 to 111 do not all give one slot. No program in sight.
-/
namespace Go.Proofs.Ytkhalhfijejioaa.Slots
def nib13 (x : Nat) : Nat := (x ^^^ x / 16 ^^^ x / 256 ^^^ x / 4096) % 16
def A (L h0 e n : Nat) : Nat := nib13 ((L + 403 * n) % 8192) ^^^ ((h0 + n + e * ((L + 403 * n) / 8192)) % 16)
def key (L h0 e n : Nat) : Nat := 2 * ((L + 403 * n) / 8192) + (h0 + n + e * ((L + 403 * n) / 8192)) / 16
def differ (L h0 e n m : Nat) : Bool := Nat.beq (key L h0 e n) (key L h0 e m) && !Nat.beq (A L h0 e n) (A L h0 e m)
def any (p : Nat → Bool) : Nat → Bool
  | 0 => false
  | n + 1 => p n || any p n
def all (p : Nat → Bool) : Nat → Bool
  | 0 => true
  | n + 1 => p n && all p n
def found (L h0 e a : Nat) : Bool := any (fun n => !Nat.beq n a && any (fun m => !Nat.beq m a && differ L h0 e n m) n) 16
def twice (L h0 e : Nat) : Bool := any (fun n => any (fun m => differ L h0 e n m && found L h0 e n && found L h0 e m) n) 16
def checkL (l : Nat) : Bool := all (fun h0 => all (fun e => twice (16 * l) h0 e) 2) 16
theorem t : all checkL 512 = true := by decide +kernel
end Go.Proofs.Ytkhalhfijejioaa.Slots
namespace Go.Proofs.Ytkhalhfijejioaa.Slots
/-- the eight fours of a number, one xor the other -/
def fours (h : Nat) : Nat :=
  (h ^^^ h / 16 ^^^ h / 256 ^^^ h / 4096 ^^^ h / 65536 ^^^ h / 1048576 ^^^ h / 16777216 ^^^ h / 268435456) % 16
def step (h b : Nat) : Nat := (h ^^^ b) * 16777619 % 4294967296
def hash (h : Nat) : List UInt8 → Nat
  | [] => h
  | b :: r => hash (step h b.toNat) r
def slot (l : List UInt8) : Nat := fours (hash 2166136261 l)

theorem xor_left_comm (a b c : Nat) : a ^^^ (b ^^^ c) = b ^^^ (a ^^^ c) := by
  rw [← Nat.xor_assoc, Nat.xor_comm a b, Nat.xor_assoc]
theorem div16 (a b : Nat) : (a ^^^ b) / 16 = a / 16 ^^^ b / 16 := Nat.xor_div_two_pow (n := 4)
theorem div256 (a b : Nat) : (a ^^^ b) / 256 = a / 256 ^^^ b / 256 := Nat.xor_div_two_pow (n := 8)
theorem div4096 (a b : Nat) : (a ^^^ b) / 4096 = a / 4096 ^^^ b / 4096 := Nat.xor_div_two_pow (n := 12)
theorem div65536 (a b : Nat) : (a ^^^ b) / 65536 = a / 65536 ^^^ b / 65536 := Nat.xor_div_two_pow (n := 16)
theorem div1048576 (a b : Nat) : (a ^^^ b) / 1048576 = a / 1048576 ^^^ b / 1048576 := Nat.xor_div_two_pow (n := 20)
theorem div16777216 (a b : Nat) : (a ^^^ b) / 16777216 = a / 16777216 ^^^ b / 16777216 := Nat.xor_div_two_pow (n := 24)
theorem div268435456 (a b : Nat) : (a ^^^ b) / 268435456 = a / 268435456 ^^^ b / 268435456 := Nat.xor_div_two_pow (n := 28)
theorem mod16 (a b : Nat) : (a ^^^ b) % 16 = a % 16 ^^^ b % 16 := Nat.xor_mod_two_pow (n := 4)
theorem mod256 (a b : Nat) : (a ^^^ b) % 256 = a % 256 ^^^ b % 256 := Nat.xor_mod_two_pow (n := 8)

theorem xor4 (p q r s : Nat) : (p ^^^ q) ^^^ (r ^^^ s) = (p ^^^ r) ^^^ (q ^^^ s) := by
  rw [Nat.xor_assoc, xor_left_comm q, ← Nat.xor_assoc]
theorem fours_xor (a b : Nat) : fours (a ^^^ b) = fours a ^^^ fours b := by
  unfold fours
  simp only [div16, div256, div4096, div65536, div1048576, div16777216, div268435456, mod16]
  rw [xor4 (a % 16), xor4 (a % 16 ^^^ a / 16 % 16), xor4 (a % 16 ^^^ a / 16 % 16 ^^^ a / 256 % 16), xor4 (a % 16 ^^^ a / 16 % 16 ^^^ a / 256 % 16 ^^^ a / 4096 % 16),
    xor4 (a % 16 ^^^ a / 16 % 16 ^^^ a / 256 % 16 ^^^ a / 4096 % 16 ^^^ a / 65536 % 16),
    xor4 (a % 16 ^^^ a / 16 % 16 ^^^ a / 256 % 16 ^^^ a / 4096 % 16 ^^^ a / 65536 % 16 ^^^ a / 1048576 % 16),
    xor4 (a % 16 ^^^ a / 16 % 16 ^^^ a / 256 % 16 ^^^ a / 4096 % 16 ^^^ a / 65536 % 16 ^^^ a / 1048576 % 16 ^^^ a / 16777216 % 16)]

theorem fours_lt (h : Nat) : fours h < 16 := Nat.mod_lt _ (by decide)

/-- the program's way: fold by 16, by 8, by 4 -/
theorem fours_fold (h : Nat) :
    let a := h ^^^ h / 65536
    let b := a ^^^ a / 256
    (b ^^^ b / 16) % 16 = fours h := by
  intro a b
  show (b ^^^ b / 16) % 16 = fours h
  unfold fours
  simp only [a, b, div16, div256, Nat.div_div_eq_div_mul, mod16, Nat.reduceMul]
  simp only [Nat.xor_assoc, xor_left_comm]

theorem step_lt (h b : Nat) : step h b < 4294967296 := Nat.mod_lt _ (by decide)
theorem hash_lt (l : List UInt8) : ∀ {h : Nat}, h < 4294967296 → hash h l < 4294967296 := by
  induction l with
  | nil => intro h hh; exact hh
  | cons b r ih => intro h _; exact ih (step_lt _ _)
theorem hash_append (l m : List UInt8) : ∀ h, hash h (l ++ m) = hash (hash h l) m := by
  induction l with
  | nil => intro h; rfl
  | cons b r ih => intro h; exact ih _

/-! ### not all of one workspace's are one -/
theorem any_of {p : Nat → Bool} : ∀ {n : Nat}, any p n = true → ∃ i, i < n ∧ p i = true
  | 0, h => by simp [any] at h
  | n + 1, h => by
    simp only [any, Bool.or_eq_true] at h
    rcases h with h | h
    · exact ⟨n, by omega, h⟩
    · obtain ⟨i, hi, hp⟩ := any_of h; exact ⟨i, by omega, hp⟩
theorem all_of {p : Nat → Bool} : ∀ {n : Nat}, all p n = true → ∀ i, i < n → p i = true
  | 0, _, i, hi => by omega
  | n + 1, h, i, hi => by
    simp only [all, Bool.and_eq_true] at h
    by_cases e : i = n
    · rw [e]; exact h.1
    · exact all_of h.2 i (by omega)

theorem found_of {L h0 e a : Nat} (h : found L h0 e a = true) : ∃ n m, n < 16 ∧ m < 16 ∧ n ≠ a ∧ m ≠ a ∧ differ L h0 e n m = true := by
  unfold found at h
  obtain ⟨n, hn, h⟩ := any_of h
  simp only [Bool.and_eq_true] at h
  obtain ⟨m, hm, h2⟩ := any_of h.2
  simp only [Bool.and_eq_true] at h2
  refine ⟨n, m, hn, by omega, ?_, ?_, h2.2⟩
  · intro hx; subst hx; simp at h
  · intro hx; subst hx; simp at h2

theorem two_of {L h0 e a : Nat} (hL : L % 16 = 0) (hL' : L < 8192) (h0' : h0 < 16) (he : e < 2) :
    ∃ n m, n < 16 ∧ m < 16 ∧ n ≠ a ∧ m ≠ a ∧ key L h0 e n = key L h0 e m ∧ A L h0 e n ≠ A L h0 e m := by
  have h1 := all_of t (L / 16) (by omega)
  unfold checkL at h1
  have h2 := all_of (all_of h1 h0 h0') e he
  rw [show 16 * (L / 16) = L by omega] at h2
  have h3 : ∃ n m, n < 16 ∧ m < 16 ∧ n ≠ a ∧ m ≠ a ∧ differ L h0 e n m = true := by
    unfold twice at h2
    obtain ⟨n, hn, h2⟩ := any_of h2
    obtain ⟨m, hm, h2⟩ := any_of h2
    simp only [Bool.and_eq_true] at h2
    by_cases e1 : n = a
    · rw [e1] at h2; exact found_of h2.1.2
    · by_cases e2 : m = a
      · rw [e2] at h2; exact found_of h2.2
      · exact ⟨n, m, hn, by omega, e1, e2, h2.1.1⟩
  obtain ⟨n, m, hn, hm, e1, e2, hd⟩ := h3
  refine ⟨n, m, hn, hm, e1, e2, ?_, ?_⟩
  · unfold differ at hd
    simp only [Bool.and_eq_true] at hd
    exact Nat.eq_of_beq_eq_true hd.1
  · unfold differ at hd
    simp only [Bool.and_eq_true, Bool.not_eq_true'] at hd
    exact fun hx => by rw [hx] at hd; simp at hd

/-- a sum of parts that do not meet is their xor -/
theorem parts (i x y : Nat) (hy : y < 2 ^ i) : 2 ^ i * x + y = 2 ^ i * x ^^^ y := by
  apply Nat.eq_of_testBit_eq
  intro j
  rw [Nat.testBit_xor, Nat.testBit_two_pow_mul_add _ hy, Nat.testBit_two_pow_mul]
  by_cases hj : j < i
  · simp [hj, Nat.not_le.2 hj]
  · have : y.testBit j = false := Nat.testBit_lt_two_pow (Nat.lt_of_lt_of_le hy (Nat.pow_le_pow_right (by decide) (by omega)))
    simp [hj, Nat.not_lt.1 hj, this]

theorem fours_low (x : Nat) (h : x < 8192) : fours x = nib13 x := by
  unfold fours nib13
  rw [show x / 65536 = 0 by omega, show x / 1048576 = 0 by omega, show x / 16777216 = 0 by omega, show x / 268435456 = 0 by omega]
  simp only [Nat.xor_zero]

theorem fours_high (y : Nat) : fours (16777216 * y) = (y % 16) ^^^ (y / 16 % 16) := by
  unfold fours
  rw [show 16777216 * y / 16 = 16 * (65536 * y) by omega, show 16777216 * y / 256 = 16 * (4096 * y) by omega,
    show 16777216 * y / 4096 = 16 * (256 * y) by omega, show 16777216 * y / 65536 = 16 * (16 * y) by omega,
    show 16777216 * y / 1048576 = 16 * y by omega, show 16777216 * y / 16777216 = y by omega, show 16777216 * y / 268435456 = y / 16 by omega,
    show 16777216 * y = 16 * (1048576 * y) by omega]
  simp only [mod16, Nat.mul_mod_right, Nat.zero_xor]

/-- the slot of the sum, out of its three parts -/
theorem fours_sum (low mid high : Nat) (hl : low < 8192) (hm : mid < 2048) :
    fours (low + 8192 * mid + 16777216 * high) = nib13 low ^^^ fours (8192 * mid) ^^^ ((high % 16) ^^^ (high / 16 % 16)) := by
  have e1 : low + 8192 * mid + 16777216 * high = 16777216 * high ^^^ (8192 * mid ^^^ low) := by
    have p1 := parts 13 mid low (by omega)
    have p2 := parts 24 high (8192 * mid + low) (by omega)
    simp only [show (2 : Nat) ^ 13 = 8192 from rfl, show (2 : Nat) ^ 24 = 16777216 from rfl] at p1 p2
    rw [← p1, ← p2]; omega
  rw [e1, fours_xor, fours_xor, fours_high, fours_low low hl]
  simp only [Nat.xor_assoc, Nat.xor_comm]

/-- where the key is one, what the rest of the sum gives is one -/
theorem slot_at (L M H n : Nat) (hL : L < 8192) (hM : M < 2048) (hn : n < 16) :
    fours ((L + 8192 * M + 16777216 * H + n * 16777619) % 4294967296) =
      A L (H % 16) (if M = 2047 then 1 else 0) n ^^^
        (fours (8192 * ((M + key L (H % 16) (if M = 2047 then 1 else 0) n / 2) % 2048)) ^^^ ((H / 16 + key L (H % 16) (if M = 2047 then 1 else 0) n % 2) % 16)) := by
  have hk : ∃ c k, (c = 0 ∨ c = 1) ∧ (k = 0 ∨ k = 1) ∧ (L + 403 * n) / 8192 = c ∧ (H % 16 + n + (if M = 2047 then 1 else 0) * c) / 16 = k := by
    refine ⟨_, _, ?_, ?_, rfl, rfl⟩
    · omega
    · by_cases h : M = 2047
      · simp only [h, if_true]
        have : (L + 403 * n) / 8192 ≤ 1 := by omega
        generalize (L + 403 * n) / 8192 = c at *
        omega
      · simp only [h, if_false]; omega
  obtain ⟨c, k, hc, hk, ec, ek⟩ := hk
  have ekey : key L (H % 16) (if M = 2047 then 1 else 0) n = 2 * c + k := by unfold key; rw [ec, ek]
  have eA : A L (H % 16) (if M = 2047 then 1 else 0) n = nib13 ((L + 403 * n) % 8192) ^^^ ((H % 16 + n + (if M = 2047 then 1 else 0) * c) % 16) := by unfold A; rw [ec]
  rw [ekey, eA]
  have d1 : (2 * c + k) / 2 = c := by omega
  have d2 : (2 * c + k) % 2 = k := by omega
  rw [d1, d2]
  have hsum : (L + 8192 * M + 16777216 * H + n * 16777619) % 4294967296 =
      (L + 403 * n) % 8192 + 8192 * ((M + c) % 2048) + 16777216 * ((H + n + (if M = 2047 then 1 else 0) * c) % 256) := by
    have hs : ∃ s, H + n + (if M = 2047 then 1 else 0) * c = s := ⟨_, rfl⟩
    obtain ⟨s, hs⟩ := hs
    rw [hs]
    have hT : L + 8192 * M + 16777216 * H + n * 16777619 = ((L + 403 * n) % 8192 + 8192 * ((M + c) % 2048) + 16777216 * (s % 256)) + 4294967296 * (s / 256) := by
      by_cases h : M = 2047
      · simp only [h, if_true] at hs ⊢; omega
      · simp only [h, if_false, Nat.zero_mul] at hs ⊢; omega
    rw [hT, Nat.add_mul_mod_self_left, Nat.mod_eq_of_lt (by omega)]
  rw [hsum, fours_sum _ _ _ (by omega) (by omega)]
  generalize nib13 ((L + 403 * n) % 8192) = x
  generalize fours (8192 * ((M + c) % 2048)) = y
  have g1 : (H + n + (if M = 2047 then 1 else 0) * c) % 256 % 16 = (H % 16 + n + (if M = 2047 then 1 else 0) * c) % 16 := by omega
  have g2 : (H + n + (if M = 2047 then 1 else 0) * c) % 256 / 16 % 16 = (H / 16 + k) % 16 := by omega
  rw [g1, g2]
  generalize (H % 16 + n + (if M = 2047 then 1 else 0) * c) % 16 = z
  simp only [Nat.xor_assoc, xor_left_comm]

theorem xor_right_cancel {a b k : Nat} (h : a ^^^ k = b ^^^ k) : a = b := by
  have h3 := congrArg (· ^^^ k) h
  simp only [Nat.xor_assoc, Nat.xor_self, Nat.xor_zero] at h3
  exact h3

/-- of the slots behind one state, letters 97 to 111, not all are k -/
theorem not_all (h k : Nat) : ∃ j, j < 15 ∧ fours (step h (97 + j)) ≠ k := by
  have hB : ∃ L M H, L < 8192 ∧ M < 2048 ∧ L % 16 = 0 ∧ (16 * ((h ^^^ 96) / 16) * 16777619) % 4294967296 = (L + 8192 * M + 16777216 * H) % 4294967296 := by
    generalize (h ^^^ 96) / 16 = w
    have h16 : 16 * w * 16777619 % 4294967296 % 16 = 0 := by omega
    generalize hN : 16 * w * 16777619 % 4294967296 = N at *
    have hlt : N < 4294967296 := by rw [← hN]; exact Nat.mod_lt _ (by decide)
    refine ⟨N % 8192, N / 8192 % 2048, N / 16777216, by omega, by omega, by omega, ?_⟩
    have e : N % 8192 + 8192 * (N / 8192 % 2048) + 16777216 * (N / 16777216) = N := by omega
    rw [e, Nat.mod_eq_of_lt hlt]
  obtain ⟨L, M, H, hL, hM, hL16, hB⟩ := hB
  obtain ⟨n, m, hn, hm, hna, hma, hkey, hA⟩ := two_of (L := L) (h0 := H % 16) (e := if M = 2047 then 1 else 0) (a := h % 16) hL16 hL (by omega) (by split <;> omega)
  have at_ : ∀ n, n < 16 → n ≠ h % 16 → ∃ j, j < 15 ∧ fours (step h (97 + j)) = fours ((L + 8192 * M + 16777216 * H + n * 16777619) % 4294967296) := by
    intro n hn hne
    have hlt : h % 16 ^^^ n < 16 := Nat.xor_lt_two_pow (n := 4) (by omega) (by omega)
    have hpos : h % 16 ^^^ n ≠ 0 := fun hx => hne (by
      have h3 := congrArg (· ^^^ n) hx
      simp only [Nat.xor_assoc, Nat.xor_self, Nat.xor_zero, Nat.zero_xor] at h3
      exact h3.symm)
    refine ⟨(h % 16 ^^^ n) - 1, by omega, ?_⟩
    have e1 : 97 + ((h % 16 ^^^ n) - 1) = 96 ^^^ (h % 16 ^^^ n) := by
      have e : 96 + (h % 16 ^^^ n) = 96 ^^^ (h % 16 ^^^ n) := parts 4 6 (h % 16 ^^^ n) hlt
      rw [← e]; omega
    have e2 : h ^^^ (97 + ((h % 16 ^^^ n) - 1)) = 16 * ((h ^^^ 96) / 16) + n := by
      rw [e1, ← Nat.xor_assoc]
      generalize hg : h ^^^ 96 = g
      have hgm : g % 16 = h % 16 := by rw [← hg, mod16]; simp
      rw [← hgm]
      have p1 := parts 4 (g / 16) (g % 16) (by omega)
      have p2 := parts 4 (g / 16) n (by omega)
      simp only [show (2 : Nat) ^ 4 = 16 from rfl] at p1 p2
      rw [p2]
      have p3 : g = 16 * (g / 16) ^^^ g % 16 := by rw [← p1]; omega
      conv => lhs; lhs; rw [p3]
      rw [Nat.xor_assoc, ← Nat.xor_assoc (g % 16), Nat.xor_self, Nat.zero_xor]
    unfold step
    rw [e2, Nat.add_mul, Nat.add_mod, hB, ← Nat.add_mod]
  rcases at_ n hn hna with ⟨j, hj, ej⟩
  rcases at_ m hm hma with ⟨i, hi, ei⟩
  by_cases hk : fours (step h (97 + j)) = k
  · refine ⟨i, hi, fun hx => hA ?_⟩
    rw [ei, slot_at L M H m hL hM hm] at hx
    rw [ej, slot_at L M H n hL hM hn] at hk
    rw [← hkey] at hx
    exact xor_right_cancel (hk.trans hx.symm)
  · exact ⟨j, hj, hk⟩
end Go.Proofs.Ytkhalhfijejioaa.Slots
