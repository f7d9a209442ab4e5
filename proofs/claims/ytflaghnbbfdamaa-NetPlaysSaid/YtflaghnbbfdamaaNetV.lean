/-
  Each call on both sides: the net and the document's give one answer, and hold one list behind it.
-/
import Derived.Test.YtflaghnbbfdamaaNetU
namespace Go.Proofs.Ytflaghnbbfdamaa
open Go.RowKit

set_option maxRecDepth 100000 in
set_option maxHeartbeats 3200000 in
theorem put_arg {w : World} {g most n : Nat} {N : Nat → Prop} {L : List Lt} (h : Net w g N most n L) (f t : Int) (s : ByteArray) (hbad : f < 0 ∨ (0 ≤ f ∧ 255 < f) ∨ (0 ≤ f ∧ f ≤ 255 ∧ t < 0) ∨ (0 ≤ f ∧ f ≤ 255 ∧ 0 ≤ t ∧ 255 < t)) :
    Calls Try.prog 8 #[.pointer (some ⟨g, 0, none⟩), .agg #[.int .i64 f, .int .i64 t, .string s]] w fun e w' => e = .returned (.int .i64 1) ∧ Below w.heap.size w w' := by
  obtain ⟨V, m, h⟩ := h
  have hbel : Below w.heap.size w (w.alloc (.cells #[.int .i64 f, .int .i64 t, .string s] 30)) := (Below.refl _ _).alloc (Nat.le_refl _) _
  have hh : (w.alloc (.cells #[.int .i64 f, .int .i64 t, .string s] 30)).heap[w.heap.size]? = some (.cells #[.int .i64 f, .int .i64 t, .string s] 30 (0, 0)) := heap_alloc_new w _
  have H := Lib.hid (h.below hbel)
  have HB := Lib.hid hbel
  have HH := Lib.hid hh
  clear hbel hh h
  rcases hbad with h1 | ⟨h1, h2⟩ | ⟨h1, h2, h3⟩ | ⟨h1, h2, h3, h4⟩
  all_goals
    go_enter Try.func8, Try.ntmps8
    go_wp2_with fail
    generalize w.alloc (.cells #[.int .i64 f, .int .i64 t, .string s] 30) = w1 at *
    have x0 : w1.cell? ⟨w.heap.size, 0, none⟩ = some (.int .i64 f) := by rw [cell_of_row _ _ _ _ _ _ HH.out]; rfl
    have x1 : w1.cell? ⟨w.heap.size, 1, none⟩ = some (.int .i64 t) := by rw [cell_of_row _ _ _ _ _ _ HH.out]; rfl
    refine (given_ok H.out.c0 H.out.most1).mono ?_
    rintro e w2 ⟨rfl, rfl⟩
    go_wp2_with fail
    go_ret
    exact ⟨rfl, HB.out⟩
set_option maxRecDepth 100000 in
set_option maxHeartbeats 3200000 in
theorem put_long {w : World} {g most n : Nat} {N : Nat → Prop} {L : List Lt} (h : Net w g N most n L) (f t : Int) (s : ByteArray) (hf : 0 ≤ f ∧ f ≤ 255) (ht : 0 ≤ t ∧ t ≤ 255) (hs : 1048576 < s.size) :
    Calls Try.prog 8 #[.pointer (some ⟨g, 0, none⟩), .agg #[.int .i64 f, .int .i64 t, .string s]] w fun e w' => e = .returned (.int .i64 4) ∧ Below w.heap.size w w' := by
  obtain ⟨V, m, h⟩ := h
  have hbel : Below w.heap.size w (w.alloc (.cells #[.int .i64 f, .int .i64 t, .string s] 30)) := (Below.refl _ _).alloc (Nat.le_refl _) _
  have hh : (w.alloc (.cells #[.int .i64 f, .int .i64 t, .string s] 30)).heap[w.heap.size]? = some (.cells #[.int .i64 f, .int .i64 t, .string s] 30 (0, 0)) := heap_alloc_new w _
  have H := Lib.hid (h.below hbel)
  have HB := Lib.hid hbel
  have HH := Lib.hid hh
  obtain ⟨f0, f1⟩ := hf
  obtain ⟨t0, t1⟩ := ht
  have hsi : (1048576 : Int) < (s.size : Int) := by omega
  clear hbel hh h
  go_enter Try.func8, Try.ntmps8
  go_wp2_with fail
  generalize w.alloc (.cells #[.int .i64 f, .int .i64 t, .string s] 30) = w1 at *
  have x0 : w1.cell? ⟨w.heap.size, 0, none⟩ = some (.int .i64 f) := by rw [cell_of_row _ _ _ _ _ _ HH.out]; rfl
  have x1 : w1.cell? ⟨w.heap.size, 1, none⟩ = some (.int .i64 t) := by rw [cell_of_row _ _ _ _ _ _ HH.out]; rfl
  have x2 : w1.cell? ⟨w.heap.size, 2, none⟩ = some (.string s) := by rw [cell_of_row _ _ _ _ _ _ HH.out]; rfl
  refine (given_ok H.out.c0 H.out.most1).mono ?_
  rintro e w2 ⟨rfl, rfl⟩
  go_wp2_with fail
  go_ret
  exact ⟨rfl, HB.out⟩

/-- a contract of the document's call f -/
def RefSays (f : FuncId) (args : Array Value) (x : Value) (most : Nat) (L L' : List Lt) : Prop :=
  ∀ (W : World) (M : Nat → Prop) (a : Option Addr) (c : Nat), (∀ z, M z → z < W.heap.size) → Rd W M a c L → Calls Try.prog f (#[qv most a L.length c] ++ args) W (BPost W M most L' x)
/-- a contract of the net's call f -/
def NetSays (f : FuncId) (args : Array Value) (x : Value) (g most n n' : Nat) (L L' : List Lt) : Prop :=
  ∀ (W : World) (M : Nat → Prop), Net W g M most n L → Calls Try.prog f (#[.pointer (some ⟨g, 0, none⟩)] ++ args) W fun e w' => e = .returned x ∧ Net w' g M most n' L' ∧ Kept M W w'
theorem still {f : FuncId} {args : Array Value} {e0 : Ending} {g most n n' : Nat} {L : List Lt} {W : World} {M : Nat → Prop} (h : Net W g M most n L) (hn : n ≤ n') (hc : Calls Try.prog f args W fun e w' => e = e0 ∧ Below W.heap.size W w') :
    Calls Try.prog f args W fun e w' => e = e0 ∧ Net w' g M most n' L ∧ Kept M W w' := by
  refine hc.mono ?_
  rintro e w' ⟨he, hb⟩
  exact ⟨he, ((h.below hb).less (fun z hz => .inl hz)).mono hn, Kept.of_below hb h.lt⟩
section
variable {w : World} {g most n : Nat} {N : Nat → Prop} {L : List Lt}
theorem put_pair (_ : Net w g N most n L) (f t : Int) (s : ByteArray) (hL : L.length ≤ 1000000) (hn : n ≤ 1000000) :
    ∃ code L', RefSays 21 #[.agg #[.int .i64 f, .int .i64 t, .string s]] (.int .i64 code) most L L' ∧ NetSays 8 #[.agg #[.int .i64 f, .int .i64 t, .string s]] (.int .i64 code) g most n (n + L.length + 1) L L' ∧ L'.length ≤ L.length + 1 := by
  by_cases hbad : f < 0 ∨ (0 ≤ f ∧ 255 < f) ∨ (0 ≤ f ∧ f ≤ 255 ∧ t < 0) ∨ (0 ≤ f ∧ f ≤ 255 ∧ 0 ≤ t ∧ 255 < t)
  · exact ⟨1, L, fun W M a c _ hR => rput_arg hR f t s hbad, fun W M hD => still hD (by omega) (put_arg hD f t s hbad), by omega⟩
  · have hf : 0 ≤ f ∧ f ≤ 255 := by omega
    have ht : 0 ≤ t ∧ t ≤ 255 := by omega
    by_cases hs : 1048576 < s.size
    · exact ⟨4, L, fun W M a c _ hR => rput_long hR f t s hf ht hs, fun W M hD => still hD (by omega) (put_long hD f t s hf ht hs), by omega⟩
    · have hg : Good (f, t, s) := ⟨hf.1, hf.2, ht.1, ht.2, by show s.size ≤ 1048576; omega⟩
      by_cases hfull : most ≤ ct L f t
      · exact ⟨2, L, fun W M a c _ hR => rput_full hR f t s hg hL hfull, fun W M hD => still hD (by omega) (put_full hD f t s hg hfull), by omega⟩
      · exact ⟨0, _, fun W M a c _ hR => rput_ok hR f t s hg hL (by omega), fun W M hD => (put_ok hD f t s hg (by omega) hL hn).mono fun e w' hp => ⟨hp.1, hp.2.1.mono (by omega), hp.2.2⟩, by simp⟩
theorem twice_pair (h : Net w g N most n L) (k : Int) (hL : L.length ≤ 1000000) (hn : n ≤ 1000000) :
    ∃ b L', RefSays 23 #[.int .i64 k] (.bool b) most L L' ∧ NetSays 15 #[.int .i64 k] (.bool b) g most n (n + L.length + 1) L L' ∧ L'.length ≤ L.length + 1 := by
  by_cases hne : L = []
  · subst hne
    refine ⟨false, [], fun W M a c _ hR => rtwice_none hR k, fun W M hD => ?_, by simp⟩
    exact still hD (by omega) ((twice_none hD k).mono fun e w' hp => ⟨hp.1, by rw [← hp.2]; exact Below.refl _ _⟩)
  · obtain ⟨⟨f, t, s⟩, hget⟩ : ∃ l, L[plc k L.length]? = some l := ⟨_, List.getElem?_eq_getElem (plc_lt k (List.length_pos_iff.2 hne))⟩
    have hg := h.good _ (List.mem_of_getElem? hget)
    by_cases hfull : most ≤ ct L f t
    · exact ⟨_, L, fun W M a c hM hR => rtwice_by hR hM k hL hget (code := 2) fun W' hb => (rput_full (hR.below hb) f t s hg hL hfull), fun W M hD => still hD (by omega) (twice_by hD hne hL k hget (put_full hD f t s hg hfull)), by omega⟩
    · refine ⟨_, _, fun W M a c hM hR => rtwice_by hR hM k hL hget (code := 0) fun W' hb => (rput_ok (hR.below hb) f t s hg hL (by omega)), fun W M hD => ?_, by simp⟩
      exact (twice_by hD hne hL k hget (put_ok hD f t s hg (by omega) hL hn)).mono fun e w' hp => ⟨hp.1, hp.2.1.mono (by omega), hp.2.2⟩
theorem cut_pair (_ : Net w g N most n L) (k : Int) (hL : L.length ≤ 100000) (hn : n ≤ 800000) :
    ∃ x L', RefSays 24 #[.int .i64 k] (.int .i64 x) most L L' ∧ NetSays 16 #[.int .i64 k] (.int .i64 x) g most n (n + L.length + 1) L L' ∧ L'.length ≤ L.length + 1 :=
  ⟨_, _, fun W M a c hM hR => rcut_ok hR hM k (by omega), fun W M hD => (cut_ok hD k hL hn).mono fun e w' hp => ⟨hp.1, hp.2.1.mono (by omega), hp.2.2⟩, by have := List.length_filter_le (kp k) L; omega⟩
theorem take_pair (_ : Net w g N most n L) (k : Int) (hL : L.length ≤ 1000000) (hn : n ≤ 1000000) :
    ∃ f t s ok L', (∀ (W : World) (M : Nat → Prop) (a : Option Addr) (c : Nat), Rd W M a c L → Calls Try.prog 22 #[qv most a L.length c, .int .i64 k] W (TPost W M most L' f t s ok)) ∧
      NetSays 9 #[.int .i64 k] (.tuple #[.agg #[.int .i64 f, .int .i64 t, .string s], .bool ok]) g most n (n + L.length + 1) L L' ∧ L'.length = L.length - 1 := by
  by_cases hne : L = []
  · subst hne
    exact ⟨0, 0, ⟨#[]⟩, false, [], fun W M a c hR => rtake_none hR k, fun W M hD => still hD (by omega) (take_none hD k), rfl⟩
  · have hpl := plc_lt k (List.length_pos_iff.2 hne)
    obtain ⟨⟨f, t, s⟩, hget⟩ : ∃ l, L[plc k L.length]? = some l := ⟨_, List.getElem?_eq_getElem hpl⟩
    exact ⟨f, t, s, true, _, fun W M a c hR => rtake_ok hR k hL hget, fun W M hD => (take_ok hD k f t s hL hn hget).mono fun e w' hp => ⟨hp.1, hp.2.1.mono (by omega), hp.2.2⟩, by rw [List.length_eraseIdx_of_lt hpl]⟩
end
end Go.Proofs.Ytflaghnbbfdamaa
