/-
  The function PutFixed of the reference of layer 1, at four bytes: it appends the four bytes of a number below 2^32. It writes nothing that was there.
-/
import Derived.Test.YtfjjckimgcofnaaBits
namespace Go.Proofs.Ytfjjckimgcofnaa
open Go.RowKit

/-- bytes as cells -/
def cellsOf (l : List UInt8) : List Value := l.map fun b => .int .u8 (b.toNat : Int)
/-- a slice of bytes that the call owns, as a text -/
theorem own_text {w : World} {B : Nat} {v : Value} {l : List UInt8} (h : w.ownsRow B 5 1 v l.length (cellsOf l)) : (convert 36 9 v).run Try.prog w = .ok (.string ⟨l.toArray⟩) w := by
  obtain ⟨_, h⟩ := h
  rcases h with ⟨rfl, h0⟩ | ⟨g, cap, cur, rfl, _, hh, hn, _, hsz, hx⟩
  · have : l = [] := List.length_eq_zero_iff.1 h0
    subst this
    have := run_convert_bytes_nil (P := Try.prog) w 36 5 Try.underlying36 Try.underlying5 0 0 9 Try.underlying9
    exact this
  · apply run_convert_bytes_back w 36 9 5 ⟨g, 0, none⟩ cap l Try.underlying36 Try.underlying5 Try.underlying9
    intro j hj
    have e : (⟨g, 0, none⟩ : Addr).add j = ⟨g, j, none⟩ := by unfold Addr.add; split <;> simp_all
    rw [e, cell_of_row _ _ _ _ _ _ hh]
    have h1 : (cur.toList.take (l.length * 1))[j]? = (cellsOf l)[j]? := by rw [hx]
    rw [List.getElem?_take, if_pos (by omega)] at h1
    rw [← Array.getElem?_toList, h1]
    simp [cellsOf, hj]

theorem own_base {w : World} {base : Nat} {e : TypeId} {size n : Nat} {v : Value} {xs : List Value} (h : w.ownsRow base e size v n xs) : ∀ g, v.ownBlock = some g → base ≤ g := by
  intro g hg
  rcases h.2 with ⟨rfl, _⟩ | ⟨g', cap, cur, rfl, hb, _⟩
  · simp [Value.ownBlock] at hg
  · simp [Value.ownBlock] at hg
    omega
theorem le4_at (n k : Nat) (hk : k < 4) : (Rec.le4 n).take (k + 1) = (Rec.le4 n).take k ++ [UInt8.ofNat (n / 2 ^ (8 * k))] := by
  match k, hk with
  | 0, _ => simp [Rec.le4]
  | 1, _ => simp [Rec.le4]
  | 2, _ => simp [Rec.le4]
  | 3, _ => simp [Rec.le4]

set_option maxRecDepth 100000 in
set_option maxHeartbeats 1600000 in
theorem refput4_any (n : Nat) (hn : n < 4294967296) (w : World) :
    Calls Try.prog 19 #[.int .i64 n, .int .i64 4] w fun e w' => e = .returned (.tuple #[.string (txt (Rec.le4 n)), .int .i64 0]) ∧ Below w.heap.size w w' := by
  have h0 : (n : Int) / 4294967296 = 0 := by omega
  obtain ⟨i0, hi, hz0, hz1, hz2⟩ := info_parts info5
  go_enter Try.func19, Try.ntmps19
  go_wp2_with fail
  clear h0
  go_loopw [6, 7] (fun v i wr => ∃ k : Nat, k ≤ 4 ∧ i = .int .i64 k ∧ wr.ownsRow w.heap.size 5 1 v k (cellsOf ((Rec.le4 n).take k)) ∧ Below w.heap.size w wr) (fun _ i _ => 4 - (intOf i).toNat)
  case atStart => exact ⟨0, by omega, rfl, ⟨rfl, .inl ⟨rfl, rfl⟩⟩, Below.refl _ _⟩
  case round =>
    obtain ⟨k, hk, rfl, hown, hbel⟩ := hrel
    by_cases hkn : k < 4
    · have hb := byte_at n k
      have hbyte : bits .and .i64 ((n : Int) / 2 ^ (8 * k)) 255 = (((UInt8.ofNat (n / 2 ^ (8 * k))).toNat : Nat) : Int) := by rw [i64_and255, hb]
      have HT := Lib.hid (le4_at n k hkn)
      have hy := (UInt8.ofNat (n / 2 ^ (8 * k))).toNat_lt
      generalize UInt8.ofNat (n / 2 ^ (8 * k)) = y at *
      clear hb
      go_wp2_with (at_builtin; refine wpList_append_own _ rfl _ _ 36 rfl w.heap.size 5 i0 (.int .u8 0) 1 1 Try.underlying36 hi hz0 hz1 hz2 rfl (by decide) _ _ _ rfl (hown.alloc _) ⟨wr.heap.size, 0, none⟩ 1 1 [.int .u8 (y.toNat : Int)] rfl rfl ?c1 ?c2 ?c3 ?c4 ?c5 ?_)
      case c1 => exact cell_one_new _ _ _
      case c2 => intro u hu; rw [List.mem_singleton.1 hu]; rfl
      case c3 => unfold maxLen; omega
      case c4 => omega
      case c5 => have := hbel.size; simp; omega
      intro v' w1 hown1 hgrow _
      have hbel1 := (hbel.alloc hbel.size (.cells #[.int .u8 (y.toNat : Int)] 5)).grown hgrow (by have := hbel.size; simp; omega) (own_base hown)
      clear hbyte hgrow hbel hown
      go_wp2_with fail
      go_roundw
      case rel => exact ⟨k + 1, by omega, by go_num, by rw [HT.out]; simpa [cellsOf] using hown1, hbel1⟩
      case measure => simp [intOf]; omega
    · obtain rfl : k = 4 := by omega
      have ht : (Rec.le4 n).take 4 = Rec.le4 n := rfl
      rw [ht] at hown
      have hconv := own_text (l := Rec.le4 n) hown
      obtain ⟨l, hl⟩ : ∃ l, Rec.le4 n = l := ⟨_, rfl⟩
      rw [hl] at hconv
      have HX := Lib.hid hl
      clear hown hl ht
      go_wp2_with fail
      go_ret2
      exact ⟨ret_str2 (by rw [HX.out]; rfl), hbel⟩
end Go.Proofs.Ytfjjckimgcofnaa
