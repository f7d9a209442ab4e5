/-
  Each call on both sides: the disk and the reference's give one answer, and hold one thing behind it.
-/
import Derived.Test.YtgcghdinccdphaaRefG
import Derived.OpenShut
namespace Go.Proofs.Ytgcghdinccdphaa
open Go.RowKit

/-- a contract of the reference's call f -/
def RefSays (f : FuncId) (args : Array Value) (code : Int) (r : Nat) (F F' : Nat → List UInt8) (S S' : Nat → Nat) : Prop :=
  ∀ (W : World) (M : Nat → Prop) (a b c d : Nat), Rfd W M a b c d F S → Calls Try.prog f (#[rval r a b c d] ++ args) W fun e w' => ∃ v, e = .returned (.tuple #[v, .int .i64 code]) ∧ Rf w' (NN M W w') v r F' S' ∧ Below W.heap.size W w'
/-- a contract of the disk's call f -/
def DiskSays (f : FuncId) (args : Array Value) (code : Int) (g r : Nat) (F F' : Nat → List UInt8) (S S' : Nat → Nat) : Prop :=
  ∀ (W : World) (M : Nat → Prop), Disk W g M r F S → Calls Try.prog f (#[.pointer (some ⟨g, 0, none⟩)] ++ args) W fun e w' => e = .returned (.int .i64 code) ∧ Disk w' g M r F' S' ∧ Kept M W w'

theorem still {f : FuncId} {args : Array Value} {e0 : Ending} {g r : Nat} {F : Nat → List UInt8} {S : Nat → Nat} {W : World} {M : Nat → Prop} (h : Disk W g M r F S) (hc : Calls Try.prog f args W fun e w' => e = e0 ∧ W = w') :
    Calls Try.prog f args W fun e w' => e = e0 ∧ Disk w' g M r F S ∧ Kept M W w' := by
  refine hc.mono ?_
  rintro e w' ⟨he, rfl⟩
  exact ⟨he, h, Kept.refl _ _⟩

section
variable {w : World} {g r : Nat} {N : Nat → Prop} {F : Nat → List UInt8} {S : Nat → Nat}
theorem part (k : Int) : (k < 0 ∨ 256 ≤ k) ∨ ∃ n : Nat, k = n ∧ n < 256 := by
  by_cases h : k < 0 ∨ 256 ≤ k
  · exact .inl h
  · exact .inr ⟨k.toNat, by omega, by omega⟩
theorem add_pair (h : Disk w g N r F S) (k : Int) (s : ByteArray) (hs : s.size ≤ 9223372036854775807) :
    ∃ code F' S', RefSays 22 #[.int .i64 k, .string s] code r F F' S S' ∧ DiskSays 10 #[.int .i64 k, .string s] code g r F F' S S' := by
  have hr := h.r2
  have hf := h.fits
  rcases part k with hk | ⟨n, rfl, hn⟩
  · exact ⟨1, F, S, fun W M a b c d hR => radd_no hR hk s, fun W M hD => still hD (add_no hD hk s)⟩
  · by_cases hroom : s.size + total F 256 ≤ r
    · exact ⟨0, _, _, fun W M a b c d hR => radd_ok hR hr hn s hroom, fun W M hD => add_ok hD hn s hroom⟩
    · exact ⟨30, F, S, fun W M a b c d hR => radd_full hR hr hf hn s hs (by omega), fun W M hD => add_full hD hn s (by unfold maxLen; omega) (by omega)⟩
theorem trim_pair (_h : Disk w g N r F S) (k n : Int) :
    ∃ code F' S', RefSays 24 #[.int .i64 k, .int .i64 n] code r F F' S S' ∧ DiskSays 20 #[.int .i64 k, .int .i64 n] code g r F F' S S' := by
  rcases part k with hk | ⟨j, rfl, hj⟩
  · exact ⟨1, F, S, fun W M a b c d hR => rtrim_none hR hk n, fun W M hD => still hD (trim_none hD hk n)⟩
  · by_cases hn : n < 0 ∨ (0 ≤ n ∧ ((F j).length : Int) < n)
    · exact ⟨1, F, S, fun W M a b c d hR => rtrim_no hR hj n hn, fun W M hD => still hD (trim_no hD hj n hn)⟩
    · obtain ⟨m, rfl⟩ : ∃ m : Nat, n = m := ⟨n.toNat, by omega⟩
      exact ⟨0, _, _, fun W M a b c d hR => rtrim_ok hR hj m (by omega), fun W M hD => trim_ok hD hj m (by omega)⟩
theorem swap_pair (h : Disk w g N r F S) (x y : Int) :
    ∃ code F' S', RefSays 26 #[.int .i64 x, .int .i64 y] code r F F' S S' ∧ DiskSays 15 #[.int .i64 x, .int .i64 y] code g r F F' S S' := by
  rcases part x with hx | ⟨a, rfl, ha⟩
  · exact ⟨1, F, S, fun W M a b c d hR => rswap_none hR hx y, fun W M hD => still hD (swap_none hD hx (by omega))⟩
  · rcases part y with hy | ⟨b, rfl, hb⟩
    · exact ⟨1, F, S, fun W M _ _ _ _ hR => rswap_none2 hR ha hy, fun W M hD => still hD (swap_none2 hD ha hy)⟩
    · have h1 := h.sure ha
      have h2 := h.sure hb
      by_cases hl : S a < (F a).length ∨ (S a = (F a).length ∧ S b < (F b).length)
      · exact ⟨31, F, S, fun W M _ _ _ _ hR => rswap_loose hR ha hb hl, fun W M hD => swap_loose hD ha hb hl⟩
      · refine ⟨0, _, _, fun W M _ _ _ _ hR => rswap_ok hR ha hb (by omega) (by omega), fun W M hD => ?_⟩
        by_cases hab : a = b
        · subst hab
          have e1 : (fun i => F (sw a a i)) = F := by funext i; unfold sw; split <;> simp_all
          have e2 : (fun i => S (sw a a i)) = S := by funext i; unfold sw; split <;> simp_all
          rw [e1, e2]
          exact swap_self hD ha (by omega)
        · exact swap_ok hD ha hb hab (by omega) (by omega)
theorem bytes_pair (h : Disk w g N r F S) (k i m : Int) (hi : -9223372036854775808 ≤ i ∧ i ≤ 9223372036854775807) (hm : -9223372036854775808 ≤ m ∧ m ≤ 9223372036854775807) :
    ∃ t code, (∀ (W : World) (M : Nat → Prop) (a b c d : Nat), Rfd W M a b c d F S → Calls Try.prog 23 #[rval r a b c d, .int .i64 k, .int .i64 i, .int .i64 m] W fun e w' => e = .returned (.tuple #[.string t, .int .i64 code]) ∧ Below W.heap.size W w') ∧
      (∀ (W : World) (M : Nat → Prop), Disk W g M r F S → Calls Try.prog 14 #[.pointer (some ⟨g, 0, none⟩), .int .i64 k, .int .i64 i, .int .i64 m] W fun e w' => e = .returned (.tuple #[.string t, .int .i64 code]) ∧ W = w') := by
  have hr := h.r2
  have hf := h.fits
  rcases part k with hk | ⟨j, rfl, hj⟩
  · exact ⟨_, 1, fun W M a b c d hR => rbytes_none hk i m, fun W M hD => by obtain ⟨V, hD⟩ := hD; exact bytes_none hD hk i m⟩
  · by_cases him : i < 0 ∨ (0 ≤ i ∧ m < 0) ∨ (0 ≤ i ∧ 0 ≤ m ∧ ((F j).length : Int) < i) ∨ (0 ≤ i ∧ 0 ≤ m ∧ i ≤ ((F j).length : Int) ∧ ((F j).length : Int) - i < m)
    · exact ⟨_, 1, fun W M a b c d hR => rbytes_no hR (by omega) hj i m hi hm him, fun W M hD => by obtain ⟨V, hD⟩ := hD; exact bytes_no hD hj i m hi hm him⟩
    · obtain ⟨p, rfl⟩ : ∃ p : Nat, i = p := ⟨i.toNat, by omega⟩
      obtain ⟨q, rfl⟩ : ∃ q : Nat, m = q := ⟨m.toNat, by omega⟩
      exact ⟨_, 0, fun W M a b c d hR => rbytes_ok hR (by omega) hj p q (by omega), fun W M hD => bytes_disk hD hj p q (by omega)⟩
end
end Go.Proofs.Ytgcghdinccdphaa
