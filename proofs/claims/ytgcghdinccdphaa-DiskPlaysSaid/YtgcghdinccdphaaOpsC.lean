/-
  The function Add of package disk.
-/
import Derived.Test.YtgcghdinccdphaaOpsB
namespace Go.Proofs.Ytgcghdinccdphaa
open Go.RowKit

section
variable {w w1 : World} {g r : Nat} {N : Nat → Prop} {V : Nat → Value} {F : Nat → List UInt8} {S : Nat → Nat}
theorem own_block_ne (h : Dk w g N V r F S) {k : Nat} (hk : k < 256) : (V k).ownBlock ≠ some g := fun e => by have := (own_lt (h.own k hk) g e).1; omega
/-- file k has another slice and other bytes -/
theorem Dk.put (h : Dk w g N V r F S) {k : Nat} (hk : k < 256) {v : Value} {l : List UInt8} (hgrow : w.grownBy w1 (V k).ownBlock) (hown : w1.ownsRow (g + 1) 5 1 v l.length (cellsOf l))
    (hv : v.ownBlock = (V k).ownBlock ∨ v.ownBlock = none ∨ v.ownBlock = some w.heap.size) (hs : S k ≤ l.length) (hfit : total (upd F k l) 256 ≤ r) :
    Dk (w1.setCell ⟨g, 1 + k * 2, none⟩ v) g N (upd V k v) r (upd F k l) S ∧ Kept N w (w1.setCell ⟨g, 1 + k * 2, none⟩ v) := by
  have hgl := h.glt
  have hg1 : w1.heap[g]? = w.heap[g]? := hgrow.block g hgl (fun e => own_block_ne h hk e.symm)
  have hc : ∀ o, w1.cell? ⟨g, o, none⟩ = w.cell? ⟨g, o, none⟩ := fun o => World.cell?_of_block (a := ⟨g, o, none⟩) hg1
  have hfr : ∀ o, w1.frozen? ⟨g, o, none⟩ = w.frozen? ⟨g, o, none⟩ := fun o => World.frozen?_of_block (a := ⟨g, o, none⟩) hg1
  have hvN : ∀ b, v.ownBlock = some b → ¬ N b ∧ (b ≠ g) := by
    intro b e
    rcases hv with hv | hv | hv
    · exact ⟨h.mines k b hk (hv ▸ e), fun e2 => own_block_ne h hk (by rw [← hv, e, e2])⟩
    · rw [hv] at e; cases e
    · rw [hv] at e
      injection e with e
      exact ⟨fun hn => by have := h.lt b hn; omega, by omega⟩
  refine ⟨⟨?_, ?_, ?_, ?_, ?_, ?_, h.mine, ?_, ?_, ?_, hfit, h.r1, h.r2⟩, ?_⟩
  · rw [World.cell?_setCell_other (h := by simp), hc]
    exact h.room
  · intro i hi
    by_cases e : i = k
    · subst e
      rw [upd_same, World.cell?_setCell_same (h := (hc _).trans (h.byt i hi))]
    · rw [upd_other _ _ _ _ e, World.cell?_setCell_other (h := by simp <;> omega), hc]
      exact h.byt i hi
  · intro i hi
    rw [World.cell?_setCell_other (h := by simp <;> omega), hc]
    exact h.sur i hi
  · intro o
    rw [World.frozen?_setCell, hfr]
    exact h.free o
  · intro i hi
    by_cases e : i = k
    · subst e
      rw [upd_same, upd_same]
      exact ownsRow_setCell_below hown (show g < g + 1 by omega) v
    · rw [upd_other _ _ _ _ e, upd_other _ _ _ _ e]
      refine ownsRow_setCell_below ?_ (show g < g + 1 by omega) v
      exact World.ownsRow.kept (h.own i hi) hgrow (h.apart i k hi hk e)
  · intro i j hi hj hij
    by_cases e : i = k
    · subst e
      rw [upd_same, upd_other _ _ _ _ (Ne.symm hij)]
      rcases hv with hv | hv | hv
      · rw [hv]; exact h.apart i j hi hj hij
      · exact .inl hv
      · right
        rw [hv]
        intro e2
        have := (own_lt (h.own j hj) _ e2.symm).2
        omega
    · rw [upd_other _ _ _ _ e]
      by_cases e2 : j = k
      · subst e2
        rw [upd_same]
        rcases hv with hv | hv | hv
        · rw [hv]; exact h.apart i j hi hj hij
        · cases hb : (V i).ownBlock with
          | none => exact .inl rfl
          | some b => right; rw [hv]; intro e3; cases e3
        · cases hb : (V i).ownBlock with
          | none => exact .inl rfl
          | some b =>
            right; rw [hv]; intro e3
            injection e3 with e3
            have := (own_lt (h.own i hi) _ hb).2
            omega
      · rw [upd_other _ _ _ _ e2]
        exact h.apart i j hi hj hij
  · intro i b hi e
    by_cases e2 : i = k
    · subst e2
      rw [upd_same] at e
      exact (hvN b e).1
    · rw [upd_other _ _ _ _ e2] at e
      exact h.mines i b hi e
  · intro b hb
    have := h.lt b hb
    have := hgrow.size
    simp [World.setCell]
    omega
  · intro i hi
    by_cases e2 : i = k
    · subst e2; rw [upd_same]; exact hs
    · rw [upd_other _ _ _ _ e2]; exact h.sure i hi
  · exact ((Kept.refl N w).grown hgrow (fun x hx => h.mines k x hk hx) h.lt).setCell h.mine v
/-- another number of sure bytes -/
theorem Dk.mark (h : Dk w g N V r F S) {k : Nat} (hk : k < 256) {s : Nat} (hs : s ≤ (F k).length) :
    Dk (w.setCell ⟨g, 1 + k * 2 + 1, none⟩ (.int .i64 (s : Nat))) g N V r F (upd S k s) ∧ Kept N w (w.setCell ⟨g, 1 + k * 2 + 1, none⟩ (.int .i64 (s : Nat))) := by
  refine ⟨⟨?_, ?_, ?_, ?_, ?_, h.apart, h.mine, h.mines, ?_, ?_, h.fits, h.r1, h.r2⟩, (Kept.refl N w).setCell h.mine _⟩
  · rw [World.cell?_setCell_other (h := by simp)]
    exact h.room
  · intro i hi
    rw [World.cell?_setCell_other (h := by simp <;> omega)]
    exact h.byt i hi
  · intro i hi
    by_cases e : i = k
    · subst e
      rw [upd_same, World.cell?_setCell_same (h := h.sur i hi)]
    · rw [upd_other _ _ _ _ e, World.cell?_setCell_other (h := by simp <;> omega)]
      exact h.sur i hi
  · intro o
    rw [World.frozen?_setCell]
    exact h.free o
  · intro i hi
    exact ownsRow_setCell_below (h.own i hi) (show g < g + 1 by omega) _
  · intro b hb
    have := h.lt b hb
    simp [World.setCell]
    omega
  · intro i hi
    by_cases e2 : i = k
    · subst e2; rw [upd_same]; exact hs
    · rw [upd_other _ _ _ _ e2]; exact h.sure i hi
theorem Dk.drewN (h : Dk w g N V r F S) (n : Nat) : Dk (w.drewN n) g N V r F S := h.other (Nat.le_refl _) (fun _ _ _ => rfl)
theorem Dk.drew (h : Dk w g N V r F S) : Dk w.drew g N V r F S := h.other (Nat.le_refl _) (fun _ _ _ => rfl)
end

/-- append of a text's bytes, with where the new row lies -/
theorem run_append_at {P : Program} (w : World) (base : Nat) (t u ty e : TypeId) (i : TypeInfo) (ht : P.underlying t = some (.slice e)) (hu : P.underlying u = some .string) (hi : P.info? e = some i) (hz : i.zero = some (.int .u8 0))
    (hsize : i.size = 1) (hby : i.bytes = 1)
    (v : Value) (n : Nat) (xs : List Value) (hown : w.ownsRow base e 1 v n xs) (s : ByteArray)
    (h63 : n + s.size ≤ maxLen) (hbytes : n + s.size ≤ 140737488355328) (hbase : base ≤ w.heap.size) :
    ∃ v' w', (Builtin.append_ #[t, u] ty #[v, .string s]).run P w = .ok v' w' ∧ w'.ownsRow base e 1 v' (n + s.size) (xs ++ Lib.strCells s) ∧ w.grownBy w' v.ownBlock ∧
      (v'.ownBlock = v.ownBlock ∨ v'.ownBlock = none ∨ v'.ownBlock = some w.heap.size) := by
  obtain ⟨v', w', hr, h2, h3, h4⟩ := Lib.run_append_own_string (P := P) w base t u ty e i ht hu hi hz hsize hby v n xs hown s h63 hbytes hbase
  refine ⟨v', w', hr, h2, h3, ?_⟩
  have hsmall : n + s.size ≤ 9223372036854775807 := by simp only [maxLen] at h63; omega
  have hxl : xs.length = n := by simpa using hown.1
  rcases hown.2 with ⟨rfl, rfl⟩ | ⟨g, cap, cur, rfl, hbg, hg, hnc, hcm, hcs, htake⟩
  · by_cases hm : s.size = 0
    · rw [h4.2 ⟨rfl, hm⟩]
      exact .inl rfl
    · have hr2 := run_append_nil_string (P := P) w t u ty e i (.int .u8 0) ht hu hi hz s (by omega) (by omega) (by rw [hby]; omega)
      rw [hr] at hr2
      injection hr2 with e1 e2
      rw [e1]
      exact .inr (.inr rfl)
  · by_cases hroom : n + s.size ≤ cap
    · have hcs' : cur.size = cap := by simpa using hcs
      have hr2 := Lib.run_append_room_string (P := P) w t u ty e i ht hu hi hsize g n cap cur hg s hroom (by omega)
      rw [hr] at hr2
      injection hr2 with e1 e2
      rw [e1]
      exact .inl rfl
    · have holds : ∀ j u, xs[j]? = some u → w.cell? ((⟨g, 0, none⟩ : Addr).add j) = some u := hown.cells (g := g) rfl
      have hr2 := Lib.run_append_grow_string (P := P) w t u ty e i (.int .u8 0) ht hu hi hz ⟨g, 0, none⟩ n cap xs (by rw [hsize]; simpa using hxl) holds s (by omega) (by omega) (by rw [hby]; exact growslice_fits (by omega) (by omega))
      rw [hr] at hr2
      injection hr2 with e1 e2
      rw [e1]
      exact .inr (.inr rfl)

theorem wpList_append_at {P : Program} (w : World) {ops : Array Oper} {rest : List Oper} {o : Oper} {a : Act} {Q : Exit → Act → World → Prop} (hgd : o.guard = none) (sl x : Operand) (t u : TypeId)
    (ho : o.op = .call { callee := .builtin .append, args := #[sl, x], argTypes := #[t, u] })
    (base : Nat) (e : TypeId) (i : TypeInfo) (ht : P.underlying t = some (.slice e)) (hu : P.underlying u = some .string) (hi : P.info? e = some i) (hz : i.zero = some (.int .u8 0))
    (hsize : i.size = 1) (hby : i.bytes = 1)
    (v : Value) (n : Nat) (xs : List Value) (hs : a.eval sl = v) (hown : w.ownsRow base e 1 v n xs) (s : ByteArray) (hx : a.eval x = .string s)
    (h63 : n + s.size ≤ maxLen) (hbytes : n + s.size ≤ 140737488355328) (hbase : base ≤ w.heap.size)
    (h : ∀ v' w', w'.ownsRow base e 1 v' (n + s.size) (xs ++ Lib.strCells s) → w.grownBy w' v.ownBlock → (v'.ownBlock = v.ownBlock ∨ v'.ownBlock = none ∨ v'.ownBlock = some w.heap.size) → wpList P ops Q rest (a.put o.dst v') w') : wpList P ops Q (o :: rest) a w := by
  refine wpList_plain hgd fun K hK => ?_
  obtain ⟨v', w', hr, h2, h3, h4⟩ := run_append_at (P := P) w base t u o.type e i ht hu hi hz hsize hby v n xs hown s h63 hbytes hbase
  unfold Oper.wp execOp
  simp only [ho, resolve, invoke, builtin, Sem.run_bind, Sem.run_pure, Result.andThen_ok, List.map_toArray, List.map_cons, List.map_nil, hs, hx, hr]
  exact hK _ _ (h v' w' h2 h3 h4)

theorem info5 : (Try.prog.info? 5).map (fun i => (i.zero, i.size, i.bytes)) = some (some (.int .u8 0), 1, 1) := by kernel_rfl

theorem quiet_left {P : Program} {f : FuncId} {args : Array Value} {w : World} {n : Nat} {v : Value}
    (h : Calls P f args (w.drewN n) fun e w' => e = .returned v ∧ w.drewN n = w') : Calls P f args (w.drewN n) fun e w'' => e = .returned v ∧ ∃ m, w'' = w.drewN m :=
  h.mono fun _ _ ⟨he, hm⟩ => ⟨he, n, hm.symm⟩

set_option maxRecDepth 100000 in
set_option maxHeartbeats 1600000 in
/-- Add, where there is room -/
theorem add_ok {g r : Nat} {N : Nat → Prop} {F : Nat → List UInt8} {S : Nat → Nat} {w : World} (h : Disk w g N r F S) {k : Nat} (hk : k < 256) (s : ByteArray) (hs : s.size + total F 256 ≤ r) :
    Calls Try.prog 10 #[.pointer (some ⟨g, 0, none⟩), .int .i64 k, .string s] w fun e w' => e = .returned (.int .i64 0) ∧ Disk w' g N r (upd F k (F k ++ s.data.toList)) S ∧ Kept N w w' := by
  obtain ⟨V, h⟩ := h
  have hr := h.r2
  have hb := h.byt k hk
  have hroom := h.room
  have hlen := h.len hk
  obtain ⟨a, c, hV, hc1, hc2, hown⟩ := h.slice hk
  clear hown
  have HV := Lib.hid hV
  rw [hV] at hb
  have hfr := h.free (1 + k * 2)
  have HO := Lib.hid (of_ok g r h.r1 k hk w hroom)
  have HU := Lib.hid (fun n => used_any (h.drewN n))
  have H := Lib.hid h
  obtain ⟨i0, hi, hz0, hz1, hz2⟩ := info_parts info5
  obtain ⟨tt, htt⟩ : ∃ tt, tt = total F 256 := ⟨_, rfl⟩
  rw [← htt] at HU hs
  have HT := Lib.hid htt
  clear hV htt h
  go_enter Try.func10, Try.ntmps10
  go_wp2_with fail
  refine (HO.out).mono ?_
  rintro e w1 ⟨rfl, rfl⟩
  go_wp2_with fail
  go_quiet ((go_at_call 16; exact quiet_left (HU.out _)))
  have Hq := Lib.hid (H.out.drewN nq)
  have hbq : (w.drewN nq).cell? ⟨g, 1 + k * 2, none⟩ = some (.slice a (F k).length c) := hb
  have hfq : (w.drewN nq).frozen? ⟨g, 1 + k * 2, none⟩ = false := hfr
  have HK := Lib.hid ((Kept.refl N w).drewN nq)
  generalize w.drewN nq = w2 at *
  have hown : w2.ownsRow (g + 1) 5 1 (.slice a (F k).length c) (F k).length (cellsOf (F k)) := by
    have := Hq.out.own k hk
    rw [HV.out] at this
    exact this
  have hgl := Hq.out.glt
  clear hb hfr hroom
  go_wp2_with (at_builtin; refine wpList_append_at _ rfl _ _ 54 9 rfl (g + 1) 5 i0 Try.underlying54 Try.underlying9 hi hz0 hz1 hz2 _ _ _ rfl hown s rfl ?c1 ?c2 ?c3 ?_)
  case c1 => unfold maxLen; omega
  case c2 => omega
  case c3 => omega
  intro v' w3 hown3 hgrow hvb
  have hl : (F k ++ s.data.toList).length = (F k).length + s.size := by simp
  have hput := Dk.put (w1 := w3) (v := v') (l := F k ++ s.data.toList) Hq.out hk (by rw [HV.out]; exact hgrow) (by rw [hl, ← cellsOf_append]; exact hown3) (by rw [HV.out]; exact hvb)
    (by have := Hq.out.sure k hk; rw [hl]; omega) (by
      have := total_upd F k 256 (F k ++ s.data.toList)
      rw [if_pos hk, if_pos hk, hl] at this
      have := HT.out
      omega)
  have HP := Lib.hid hput
  have hneq : some g ≠ (Value.slice a (F k).length c).ownBlock := by
    rw [← HV.out]
    exact fun e => own_block_ne Hq.out hk e.symm
  have hb3 : w3.cell? ⟨g, 1 + k * 2, none⟩ = some (.slice a (F k).length c) := hgrow.cell hbq hneq
  have hf3 : w3.frozen? ⟨g, 1 + k * 2, none⟩ = false := (World.frozen?_of_block (a := ⟨g, _, none⟩) (hgrow.block g hgl hneq)).trans hfq
  obtain ⟨a3, n3, c3, hv3⟩ : ∃ a n c, v' = .slice a n c := by
    rcases hown3.2 with ⟨h, _⟩ | ⟨_, _, _, h, _⟩
    · exact ⟨_, _, _, h⟩
    · exact ⟨_, _, _, h⟩
  subst hv3
  clear hput hown hown3 hgrow hvb hneq hbq hfq hl hi hz0 hz1 hz2
  go_wp2_with fail
  go_ret
  exact ⟨rfl, ⟨_, HP.out.1⟩, HK.out.trans HP.out.2⟩

set_option maxRecDepth 100000 in
set_option maxHeartbeats 1600000 in
/-- Add, where there is no room -/
theorem add_full {g r : Nat} {N : Nat → Prop} {F : Nat → List UInt8} {S : Nat → Nat} {w : World} (h : Disk w g N r F S) {k : Nat} (hk : k < 256) (s : ByteArray) (hsm : s.size ≤ maxLen) (hs : r < s.size + total F 256) :
    Calls Try.prog 10 #[.pointer (some ⟨g, 0, none⟩), .int .i64 k, .string s] w fun e w' => e = .returned (.int .i64 30) ∧ Disk w' g N r F S ∧ Kept N w w' := by
  obtain ⟨V, h⟩ := h
  unfold maxLen at hsm
  have hr := h.r2
  have hroom := h.room
  have HO := Lib.hid (of_ok g r h.r1 k hk w hroom)
  have HU := Lib.hid (fun n => used_any (h.drewN n))
  have H := Lib.hid h
  obtain ⟨tt, htt⟩ : ∃ tt, tt = total F 256 := ⟨_, rfl⟩
  have hfit := h.fits
  rw [← htt] at HU hs hfit
  clear htt h
  go_enter Try.func10, Try.ntmps10
  go_wp2_with fail
  refine (HO.out).mono ?_
  rintro e w1 ⟨rfl, rfl⟩
  go_wp2_with fail
  go_quiet ((go_at_call 16; exact quiet_left (HU.out _)))
  have Hq := Lib.hid (H.out.drewN nq)
  have HK := Lib.hid ((Kept.refl N w).drewN nq)
  generalize w.drewN nq = w2 at *
  go_wp2_with fail
  go_ret
  exact ⟨rfl, ⟨_, Hq.out⟩, HK.out⟩
set_option maxRecDepth 100000 in
/-- Add, where there is no such file -/
theorem add_no {g r : Nat} {N : Nat → Prop} {F : Nat → List UInt8} {S : Nat → Nat} {w : World} (h : Disk w g N r F S) {k : Int} (hk : k < 0 ∨ 256 ≤ k) (s : ByteArray) :
    Calls Try.prog 10 #[.pointer (some ⟨g, 0, none⟩), .int .i64 k, .string s] w fun e w' => e = .returned (.int .i64 1) ∧ w = w' := by
  obtain ⟨V, h⟩ := h
  have HO := Lib.hid (of_no g r h.r1 k hk w h.room)
  clear h hk
  go_enter Try.func10, Try.ntmps10
  go_wp2_with fail
  refine HO.out.mono ?_
  rintro e w1 ⟨rfl, rfl⟩
  go_wp2_with fail
  go_ret
  exact ⟨rfl, rfl⟩
end Go.Proofs.Ytgcghdinccdphaa
