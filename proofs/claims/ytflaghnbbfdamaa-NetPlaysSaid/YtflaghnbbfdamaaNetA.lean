/-
  The map of a net ([2]int -> int), the call's own: look-up, n[k]++ as two operations.
-/
import Derived.Test.YtflaghnbbfdamaaRows
import Derived.WalkKit
import Derived.WalkSpells
import Derived.WalkLawsBesides
import Derived.Maps.OwnOps
import Derived.Maps.Views
import Derived.WideKeyPair
import Derived.WideKeyEntry
import Derived.DeepKeys4
import Derived.Lib.Hide
import Derived.Below
namespace Go.Proofs.Ytflaghnbbfdamaa
open Go.RowKit Go.WideShapes
open Go.WideMaps (KeyLaw ArrKey keyOf_pair)
open Go.Maps (Keyed)
open Go.ChangeMaps (setBlock heap_setBlock_same heap_setBlock_other)

theorem laidOut0 : laidOutB Try.prog = true := by kernel_rfl
theorem row38 : (38 : TypeId) < Try.prog.types.size := of_decide_eq_true (by kernel_rfl)
theorem cells3' : Try.prog.cellsOf 3 = 1 := by kernel_rfl
theorem cells38' : Try.prog.cellsOf 38 = 2 := by kernel_rfl
theorem arr38 : ArrKey Try.prog 38 3 2 := ⟨Try.underlying38, by kernel_rfl, cells3', cells38'⟩
theorem wide38 : (match Try.prog.underlying 38 with | some (.array _ _) | some (.struct _) => true | _ => false) = true := by rw [Try.underlying38]
theorem law38 : KeyLaw Try.prog 38 := deep_law_laid laidOut0 (m := 2) (by omega) row38 (by kernel_rfl) wide38
theorem keyed38 : Keyed Try.prog 38 := Keyed.of_law law38
theorem zero3 (w : World) : (zeroValue 3).run Try.prog w = .ok (.int .i64 0) w := by kernel_rfl

/-- a way -/
def pair (f t : Int) : Value := .agg #[.int .i64 f, .int .i64 t]
/-- a number that fits -/
def Fits (x : Int) : Prop := -9223372036854775808 ≤ x ∧ x ≤ 9223372036854775807
theorem Fits.wf {x : Int} (h : Fits x) : (Lit.int .i64 x).wf = true := by
  obtain ⟨h1, h2⟩ := h
  simp [Lit.wf, IntKind.min, IntKind.max, IntKind.signed, IntKind.bits]
  omega
theorem fits_of {x : Int} (h : (Lit.int .i64 x).wf = true) : Fits x := by
  simp [Lit.wf, IntKind.min, IntKind.max, IntKind.signed, IntKind.bits] at h
  exact ⟨by omega, by omega⟩
theorem key_of (f t : Int) (hf : Fits f) (ht : Fits t) : ∃ kl, keyOf Try.prog 38 (pair f t) = some kl := ⟨_, keyOf_pair arr38 Try.underlying3 ⟨_, (Nat.succ_pred_eq_of_pos (Nat.lt_of_le_of_lt (Nat.zero_le _) row38)).symm⟩ hf.wf ht.wf⟩

def upd2 (C : Int → Int → Int) (f t c : Int) : Int → Int → Int := fun x y => if x = f ∧ y = t then c else C x y
/-- block b is a net's map: as many under way from whom to whom -/
def Mp (w : World) (b n : Nat) (C : Int → Int → Int) : Prop := ∃ D : DataW Unit, w.ownsMap Try.prog 38 (plainElem Try.prog 3) b n D ∧ Maps.IsMap D ∧
  ∀ f t kl, keyOf Try.prog 38 (pair f t) = some kl → D.atKey kl (.lit (.int .i64 0)) = .lit (.int .i64 (C f t))

theorem Mp.new (w : World) : Mp (w.alloc (.map #[] 0)) w.heap.size 0 (fun _ _ => 0) := ⟨.map [], World.ownsMap_made w _ _ _, ⟨[], rfl⟩, fun _ _ _ _ => rfl⟩
theorem Mp.lt {w : World} {b n : Nat} {C : Int → Int → Int} (h : Mp w b n C) : b < w.heap.size := by obtain ⟨D, h, _⟩ := h; exact h.lt
theorem Mp.mono {w : World} {b n m : Nat} {C : Int → Int → Int} (h : Mp w b n C) (hm : n ≤ m) : Mp w b m C := by obtain ⟨D, h, h2⟩ := h; exact ⟨D, h.mono hm, h2⟩
theorem Mp.move {w w' : World} {b n : Nat} {C : Int → Int → Int} (h : Mp w b n C) (hb : w'.heap[b]? = w.heap[b]?) : Mp w' b n C := by
  obtain ⟨D, ⟨es, clock, h1, h2, h3, h4⟩, h5⟩ := h
  exact ⟨D, ⟨es, clock, hb.trans h1, h2, h3, h4⟩, h5⟩
theorem Mp.look {w : World} {b n : Nat} {C : Int → Int → Int} (h : Mp w b n C) {f t : Int} (hf : Fits f) (ht : Fits t) :
    (Instr.lookup 53 (.map (some b)) (pair f t) false).run Try.prog w = .ok (.int .i64 (C f t)) w ∧ Fits (C f t) := by
  obtain ⟨D, h1, h2, h3⟩ := h
  obtain ⟨kl, hk⟩ := key_of f t hf ht
  obtain ⟨c, hrun, hat, hwc⟩ := h1.lookup_int keyed38 Try.underlying53 Try.underlying3 (zero3 w) hk
  rw [h3 f t kl hk] at hat
  injection hat with hat
  injection hat with _ hat
  subst hat
  exact ⟨hrun, fits_of hwc⟩
theorem put_at {D : DataW Unit} {C : Int → Int → Int} (h2 : Maps.IsMap D) (h3 : ∀ f t kl, keyOf Try.prog 38 (pair f t) = some kl → D.atKey kl (.lit (.int .i64 0)) = .lit (.int .i64 (C f t))) {f t c : Int} {kl : Lit} (hk : keyOf Try.prog 38 (pair f t) = some kl) :
    ∀ x y kl', keyOf Try.prog 38 (pair x y) = some kl' → (D.put kl (.lit (.int .i64 c))).atKey kl' (.lit (.int .i64 0)) = .lit (.int .i64 (upd2 C f t c x y)) := by
  intro x y kl' hk'
  unfold upd2
  by_cases e : x = f ∧ y = t
  · obtain ⟨rfl, rfl⟩ := e
    rw [hk] at hk'
    injection hk' with hk'
    subst hk'
    rw [if_pos ⟨rfl, rfl⟩, Maps.atKey_put_same h2 (keyed38.key hk)]
  · rw [if_neg e, Maps.atKey_put_other]
    · exact h3 x y kl' hk'
    · rintro rfl
      have := keyed38.inj hk' hk
      unfold pair at this
      simp at this
      exact e this
theorem IsMap_put {D : DataW Unit} (h : Maps.IsMap D) (k : Lit) (d : DataW Unit) : Maps.IsMap (D.put k d) := by
  obtain ⟨es, rfl⟩ := h
  exact ⟨_, rfl⟩

/-- n[k]++: the entry, then the store -/
theorem Mp.entry {w : World} {b n : Nat} {C : Int → Int → Int} (h : Mp w b n C) (hn : n < maxLen) {f t : Int} (hf : Fits f) (ht : Fits t) :
    ∃ v0 st w1, (Instr.mapEntry 53 (.map (some b)) (pair f t)).run Try.prog w = .ok (.tuple #[v0, goInt st]) w1 ∧ Mp w1 b (n + 1) C ∧ w.grownBy w1 (some b) ∧
      ∀ w2 c, w2.heap[b]? = w1.heap[b]? → Fits c → ∃ w3, (Instr.entryStore 53 (.map (some b)) (goInt st) (.int .i64 c)).run Try.prog w2 = .ok () w3 ∧ Mp w3 b (n + 1) (upd2 C f t c) ∧ w2.grownBy w3 (some b) := by
  have hM := h
  obtain ⟨D, h1, h2, h3⟩ := h
  obtain ⟨kl, hk⟩ := key_of f t hf ht
  have hup : ∀ c, Fits c → ∃ w', (Instr.mapUpdate 53 (.map (some b)) (pair f t) (.int .i64 c)).run Try.prog w = .ok () w' ∧ w'.ownsMap Try.prog 38 (plainElem (H := Unit) Try.prog 3) b (n + 1) (D.put kl (.lit (.int .i64 c))) ∧ w.grownBy w' (some b) :=
    fun c hc => h1.update keyed38 Try.underlying53 hn hk (plainElem_int Try.underlying3 hc.wf)
  obtain ⟨es, clock, hb, F, hs, hD⟩ := h1
  obtain ⟨v0, st, es1, clock1, hrun, hv0, hst⟩ := WideElems.entry_then_store law38 Try.underlying53 (fun u => zero3 u) hb F hk
  have grow : ∀ (W : World) (E : Array MapEntry) (cl : Nat), (∃ E0 c0, W.heap[b]? = some (.map E0 c0)) → W.grownBy (setBlock W b (.map E cl)) (some b) := fun W E cl ⟨_, _, ho⟩ => ⟨rfl, rfl, rfl, by simp [setBlock], fun i _ hi => heap_setBlock_other ho _ (fun e => hi (by rw [e]))⟩
  refine ⟨v0, st, _, hrun, ?_, grow w _ _ ⟨_, _, hb⟩, fun w2 c hw2 hc => ?_⟩
  · rcases law38.find w hk es.toList F.keys with ⟨h4, h5⟩ | ⟨j, e0, h4, h5, h6⟩
    · obtain ⟨w', r1, r2, r3⟩ := hup 0 ⟨by omega, by omega⟩
      have q1 : (Instr.mapEntry 53 (.map (some b)) (pair f t)).run Try.prog w = .ok (.tuple #[.int .i64 0, goInt clock]) (setBlock w b (.map (es.push ⟨pair f t, .int .i64 0, clock⟩) (clock + 1))) := by
        simp [Instr.mapEntry, run_underlying Try.underlying53, MapKept.run_getObj_map hb, law38.check w false hk, h4, MapKept.run_setObj_map _ hb, Result.andThen, setBlock]
      have q2 : (Instr.mapUpdate 53 (.map (some b)) (pair f t) (.int .i64 0)).run Try.prog w = .ok () (setBlock w b (.map (es.push ⟨pair f t, .int .i64 0, clock⟩) (clock + 1))) := by
        simp [Instr.mapUpdate, run_underlying Try.underlying53, MapKept.run_getObj_map hb, law38.check w false hk, h4, MapKept.run_setObj_map _ hb, Result.andThen, setBlock]
      rw [hrun] at q1
      rw [r1] at q2
      injection q1 with _ q1
      injection q2 with _ q2
      rw [q1, ← q2]
      refine ⟨_, r2, IsMap_put h2 _ _, fun x y kl' hk' => ?_⟩
      rw [put_at h2 h3 hk x y kl' hk']
      unfold upd2
      split
      · rename_i e
        obtain ⟨rfl, rfl⟩ := e
        have hlook := (hM.look hf ht).1
        have hl2 : (Instr.lookup 53 (.map (some b)) (pair x y) false).run Try.prog w = .ok (.int .i64 0) w := by
          simp [Instr.lookup, run_underlying Try.underlying53, MapKept.run_getObj_map hb, law38.check w _ hk, h4, Result.andThen]
        rw [hlook] at hl2
        injection hl2 with hl2
        injection hl2 with _ hl2
        rw [hl2]
      · rfl
    · have hj : es[j]? = some e0 := by simpa using h5
      have hsame : es.modify j (fun e => { e with key := pair f t }) = es := by
        apply Array.ext'
        rw [Array.toList_modify, ChangeMaps.modify_eq_set _ _ _ _ h5]
        have : ({ e0 with key := pair f t } : MapEntry) = e0 := by rw [← h6]
        rw [this]
        exact WideElems.set_self _ _ _ h5
      have q1 : (Instr.mapEntry 53 (.map (some b)) (pair f t)).run Try.prog w = .ok (.tuple #[e0.val, goInt e0.born]) (setBlock w b (.map es clock)) := by
        simp [Instr.mapEntry, run_underlying Try.underlying53, MapKept.run_getObj_map hb, law38.check w false hk, h4, hj, h6, law38.stays w hk, hsame, MapKept.run_setObj_map _ hb, Result.andThen, setBlock]
      rw [hrun] at q1
      injection q1 with _ q1
      rw [q1]
      exact (hM.mono (Nat.le_succ n)).move ((heap_setBlock_same hb _).trans hb.symm)
  · rw [heap_setBlock_same hb] at hw2
    obtain ⟨es', clock', k1, k2⟩ := hst w2 (.int .i64 c) hw2
    obtain ⟨w', r1, r2, r3⟩ := hup c hc
    rw [r1] at k2
    injection k2 with _ k2
    subst k2
    refine ⟨_, k1, ?_, grow w2 _ _ ⟨_, _, hw2⟩⟩
    exact Mp.move ⟨_, r2, IsMap_put h2 _ _, put_at h2 h3 hk⟩ ((heap_setBlock_same hw2 _).trans (heap_setBlock_same hb _).symm)

section
variable {ops : Array Oper} {o : Oper} {a : Act} {K : Act → World → Prop} {Q : Exit → Act → World → Prop} {E : Prop} {w : World}
/-- the entry, at a step of a region that draws its order -/
theorem step_mapEntry (hgd : o.guard = none) (m x : Operand) (hop : o.op = .mapEntry 53 m x) (b n : Nat) (C : Int → Int → Int) (hm : a.eval m = .map (some b)) (h : Mp w b n C) (hn : n < maxLen) (f t : Int) (hf : Fits f) (ht : Fits t) (hx : a.eval x = pair f t)
    (hK : ∀ v0 st w1, Mp w1 b (n + 1) C → w.grownBy w1 (some b) → (∀ w2 c, w2.heap[b]? = w1.heap[b]? → Fits c → ∃ w3, (Instr.entryStore 53 (.map (some b)) (goInt st) (.int .i64 c)).run Try.prog w2 = .ok () w3 ∧ Mp w3 b (n + 1) (upd2 C f t c) ∧ w2.grownBy w3 (some b)) →
      K (a.put o.dst (.tuple #[v0, goInt st])) w1) :
    if Region.wanted o (yielded ops a.tmps) = true then Oper.wp Try.prog o a w K Q else E := by
  have hw : Region.wanted o (yielded ops a.tmps) = true := by simp [Region.wanted, hgd]
  rw [if_pos hw]
  obtain ⟨v0, st, w1, hrun, h1, h2, h3⟩ := h.entry hn hf ht
  unfold Oper.wp
  simp [execOp, hop, hm, hx, hrun, Result.andThen]
  exact hK v0 st w1 h1 h2 h3
theorem step_entryStore (hgd : o.guard = none) (m x y : Operand) (hop : o.op = .entryStore 53 m x y) (b : Nat) (hm : a.eval m = .map (some b)) (v : Value) (hx : a.eval x = v) (u : Value) (hy : a.eval y = u) (w3 : World)
    (hrun : (Instr.entryStore 53 (.map (some b)) v u).run Try.prog w = .ok () w3) (hK : K (a.put o.dst undef) w3) :
    if Region.wanted o (yielded ops a.tmps) = true then Oper.wp Try.prog o a w K Q else E := by
  have hw : Region.wanted o (yielded ops a.tmps) = true := by simp [Region.wanted, hgd]
  rw [if_pos hw]
  unfold Oper.wp
  simp [execOp, hop, hm, hx, hy, hrun, Result.andThen]
  exact hK
end
end Go.Proofs.Ytflaghnbbfdamaa
