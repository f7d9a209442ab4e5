/-
  does of the laws of package disk, at Size and Crash.
-/
import Derived.Test.YtgcghdinccdphaaDoesB
namespace Go.Proofs.Ytgcghdinccdphaa
open Go.RowKit

set_option maxRecDepth 100000 in
set_option maxHeartbeats 6400000 in
theorem does_size_none {w : World} {N : Nat → Prop} {g a b c d r : Nat} {F : Nat → List UInt8} {S : Nat → Nat} (hD : Disk w g N r F S) (hR : Rfd w N a b c d F S) (file x y : Int) (s : ByteArray) (hf : file < 0 ∨ 256 ≤ file) (ka : Option Addr) (km kc : Nat) :
    Calls Try.prog 18 #[.pointer (some ⟨g, 0, none⟩), rval r a b c d, .agg #[.int .i64 6, .int .i64 file, .int .i64 x, .int .i64 y, .string s, .slice ka km kc]] w (DidPost w N g r) := by
  have hbox := Dbx.new w r a b c d 6 file x y s (.slice ka km kc)
  have hbel : Below w.heap.size w (((w.alloc (.cells #[.int .i64 (r : Nat), .slice (some ⟨a, 0, none⟩) 256 c, .slice (some ⟨b, 0, none⟩) 256 d] 45)).alloc (.cells #[.int .i64 6, .int .i64 file, .int .i64 x, .int .i64 y, .string s, .slice ka km kc] 49)).alloc (.cells #[.int .i64 0, .slice none 0 0, .slice none 0 0] 45)) :=
    (((Below.refl _ _).alloc (Nat.le_refl _) _).alloc (by simp) _).alloc (by simp; omega) _
  have hsz : ∀ W M, Disk W g M r F S → Calls Try.prog 13 #[.pointer (some ⟨g, 0, none⟩), .int .i64 file] W fun e w' => e = .returned (.tuple #[.int .i64 0, .int .i64 0]) ∧ W = w' := fun W M h => by obtain ⟨V, h⟩ := h; exact size_no h hf
  have HS1 := Lib.hid hsz
  have HR := Lib.hid hR
  have HD := Lib.hid hD
  clear hR hD hsz
  unfold rval
  rcases hf with hf | hf
  all_goals
    go_enter Try.func18, Try.ntmps18
    go_wp2_with fail
    generalize ((w.alloc (.cells #[.int .i64 (r : Nat), .slice (some ⟨a, 0, none⟩) 256 c, .slice (some ⟨b, 0, none⟩) 256 d] 45)).alloc (.cells #[.int .i64 6, .int .i64 file, .int .i64 x, .int .i64 y, .string s, .slice ka km kc] 49)).alloc (.cells #[.int .i64 0, .slice none 0 0, .slice none 0 0] 45) = w1 at *
    have HD1 := Lib.hid (HD.out.below hbel)
    obtain ⟨z0, z1, z2⟩ := hbox.q
    obtain ⟨o0, o1, o2, o3, o4, o5⟩ := hbox.op
    obtain ⟨s0, s1, s2⟩ := hbox.res
    have f0 := hbox.resf 0
    have f1 := hbox.resf 1
    have f2 := hbox.resf 2
    have HBX := Lib.hid hbox
    have HB1 := Lib.hid hbel
    clear hbox hbel o0 o2 o3 o4 o5
    refine (HS1.out w1 _ HD1.out).mono ?_
    rintro e w2 ⟨rfl, rfl⟩
    go_wp2_with fail
    have HD2 : Hid (Disk w1 g (NN N w w1) r F S) := HD1.out
    have HBX2 := HBX
    have hal := HR.out.alt
    have hbl := HR.out.blt
    have hlt1 := HBX.out.lt
    obtain ⟨p1, p2, p3⟩ := stored_did (wx := w1) (M := NN N w w1) HD.out.lt (.inr ⟨by omega, by omega⟩) HD2.out ((HR.out.below HB1.out).more (N' := NN N w w1) (fun z hz => .inl hz)) (by omega) (by omega) (Kept.of_below HB1.out HD.out.lt)
    obtain ⟨c0, c1, c2⟩ := cells3_of (show (stored3 w1 (w.heap.size + 1 + 1) r a b c d).heap[w.heap.size + 1 + 1]? = _ from heap_of_cells (heap_of_cells (heap_of_cells HBX2.out.b6 0 _) 1 _) 2 _)
    refine bodyPost_ret (v := .tuple #[rval r a b c d, .bool true]) ?_ rfl ⟨_, NN N w w1, F, S, rfl, fun z hz => .inl hz, p1, p2, p3⟩
    unfold stored3 at c0 c1 c2
    unfold rval
    simp [results, Try.results18, go_sem, c0, c1, c2]

set_option maxRecDepth 100000 in
set_option maxHeartbeats 6400000 in
theorem does_size_ok {w : World} {N : Nat → Prop} {g a b c d r : Nat} {F : Nat → List UInt8} {S : Nat → Nat} (hD : Disk w g N r F S) (hR : Rfd w N a b c d F S) (file x y : Int) (s : ByteArray) (k : Nat) (hk : k < 256) (hf : file = (k : Nat)) (ka : Option Addr) (km kc : Nat) :
    Calls Try.prog 18 #[.pointer (some ⟨g, 0, none⟩), rval r a b c d, .agg #[.int .i64 6, .int .i64 file, .int .i64 x, .int .i64 y, .string s, .slice ka km kc]] w (DidPost w N g r) := by
  have hbox := Dbx.new w r a b c d 6 file x y s (.slice ka km kc)
  have hbel : Below w.heap.size w (((w.alloc (.cells #[.int .i64 (r : Nat), .slice (some ⟨a, 0, none⟩) 256 c, .slice (some ⟨b, 0, none⟩) 256 d] 45)).alloc (.cells #[.int .i64 6, .int .i64 file, .int .i64 x, .int .i64 y, .string s, .slice ka km kc] 49)).alloc (.cells #[.int .i64 0, .slice none 0 0, .slice none 0 0] 45)) :=
    (((Below.refl _ _).alloc (Nat.le_refl _) _).alloc (by simp) _).alloc (by simp; omega) _
  have hT : (txt (F k)).size = (F k).length := txt_size _
  have hsz : ∀ W M, Disk W g M r F S → Calls Try.prog 13 #[.pointer (some ⟨g, 0, none⟩), .int .i64 file] W fun e w' => e = .returned (.tuple #[.int .i64 ((txt (F k)).size : Nat), .int .i64 (S k : Nat)]) ∧ Disk w' g M r F S ∧ Kept M W w' := fun W M h => by rw [hT, hf]; exact size_disk h hk
  have HS1 := Lib.hid hsz
  have HR := Lib.hid hR
  have HD := Lib.hid hD
  subst hf
  clear hR hD hsz hT
  have k0 : (0 : Int) ≤ (k : Int) := by omega
  have k1 : (k : Int) < 256 := by omega
  have k2 : ¬ (255 : Int) < (k : Int) := by omega
  have k3 : ¬ (k : Int) < 0 := by omega
  unfold rval
  go_enter Try.func18, Try.ntmps18
  go_wp2_with fail
  generalize ((w.alloc (.cells #[.int .i64 (r : Nat), .slice (some ⟨a, 0, none⟩) 256 c, .slice (some ⟨b, 0, none⟩) 256 d] 45)).alloc (.cells #[.int .i64 6, .int .i64 (k : Nat), .int .i64 x, .int .i64 y, .string s, .slice ka km kc] 49)).alloc (.cells #[.int .i64 0, .slice none 0 0, .slice none 0 0] 45) = w1 at *
  have HD1 := Lib.hid (HD.out.below hbel)
  have HBX := Lib.hid hbox
  have HB1 := Lib.hid hbel
  clear hbox hbel
  refine (HS1.out w1 _ HD1.out).mono ?_
  rintro e w2 ⟨rfl, hD2, hK2⟩
  have HD2 : Hid (Disk w2 g (NN N w w1) r F S) := hD2
  have HK2 : Hid (Kept (NN N w w1) w1 w2) := hK2
  have hlt0 := HBX.out.lt
  have HBX2 := Lib.hid (HBX.out.kept HK2.out (fun z h1 h2 => .inr ⟨h1, by omega⟩))
  have hR2 := ((HR.out.below HB1.out).more (N' := NN N w w1) (fun z hz => .inl hz)).kept HK2.out
  have xa := hR2.all k hk
  have xb := hR2.sure k hk
  obtain ⟨z0, z1, z2⟩ := HBX2.out.q
  obtain ⟨o0, o1, o2, o3, o4, o5⟩ := HBX2.out.op
  obtain ⟨s0, s1, s2⟩ := HBX2.out.res
  have f0 := HBX2.out.resf 0
  have f1 := HBX2.out.resf 1
  have f2 := HBX2.out.resf 2
  have hal' := HR.out.alt
  have hbl' := HR.out.blt
  have n1 : ¬ a = w.heap.size + 1 + 1 := by omega
  have n2 : ¬ b = w.heap.size + 1 + 1 := by omega
  have n3 : ¬ w.heap.size + 1 = w.heap.size + 1 + 1 := by omega
  have n4 : ¬ w.heap.size = w.heap.size + 1 + 1 := by omega
  clear hD2 hK2 hR2 o0 o2 o3 o4 o5 hal' hbl'
  obtain ⟨Tk, hTk⟩ : ∃ Tk, Tk = txt (F k) := ⟨_, rfl⟩
  rw [← hTk] at xa ⊢
  obtain ⟨sk, hsk⟩ : ∃ sk, sk = S k := ⟨_, rfl⟩
  rw [← hsk] at xb ⊢
  clear hTk hsk
  have t1 := far3 (g := w.heap.size + 1 + 1) (u0 := .int .i64 (r : Nat)) (u1 := .slice (some ⟨a, 0, none⟩) 256 c) (u2 := .slice (some ⟨b, 0, none⟩) 256 d) z0 n4
  have t2 := far3 (g := w.heap.size + 1 + 1) (u0 := .int .i64 (r : Nat)) (u1 := .slice (some ⟨a, 0, none⟩) 256 c) (u2 := .slice (some ⟨b, 0, none⟩) 256 d) z1 n4
  have t3 := far3 (g := w.heap.size + 1 + 1) (u0 := .int .i64 (r : Nat)) (u1 := .slice (some ⟨a, 0, none⟩) 256 c) (u2 := .slice (some ⟨b, 0, none⟩) 256 d) z2 n4
  have t4 := far3 (g := w.heap.size + 1 + 1) (u0 := .int .i64 (r : Nat)) (u1 := .slice (some ⟨a, 0, none⟩) 256 c) (u2 := .slice (some ⟨b, 0, none⟩) 256 d) o1 n3
  have t5 := far3 (g := w.heap.size + 1 + 1) (u0 := .int .i64 (r : Nat)) (u1 := .slice (some ⟨a, 0, none⟩) 256 c) (u2 := .slice (some ⟨b, 0, none⟩) 256 d) xa n1
  have t6 := far3 (g := w.heap.size + 1 + 1) (u0 := .int .i64 (r : Nat)) (u1 := .slice (some ⟨a, 0, none⟩) 256 c) (u2 := .slice (some ⟨b, 0, none⟩) 256 d) xb n2
  go_wp2_with fail
  go_region_held3 (fun w' => w'.cell? ⟨w.heap.size, 0, none⟩ = some (.int .i64 (r : Nat)) ∧ w'.cell? ⟨w.heap.size, 1, none⟩ = some (.slice (some ⟨a, 0, none⟩) 256 c) ∧ w'.cell? ⟨w.heap.size, 2, none⟩ = some (.slice (some ⟨b, 0, none⟩) 256 d) ∧ w'.cell? ⟨w.heap.size + 1, 1, none⟩ = some (.int .i64 (k : Nat)) ∧ w'.cell? ⟨a, k, none⟩ = some (.string Tk) ∧ w'.cell? ⟨b, k, none⟩ = some (.int .i64 (sk : Nat))) (go_keep) (fail)
  all_goals
    go_wp2_with fail
    have hal := HR.out.alt
    have hbl := HR.out.blt
    have hlt1 := HBX.out.lt
    obtain ⟨p1, p2, p3⟩ := stored_did (wx := w2) (M := NN N w w1) HD.out.lt (.inr ⟨by omega, by omega⟩) HD2.out (((HR.out.below HB1.out).more (N' := NN N w w1) (fun z hz => .inl hz)).kept HK2.out) (by omega) (by omega) ((Kept.of_below HB1.out HD.out.lt).trans (HK2.out.less (fun z hz => .inl hz)))
    obtain ⟨c0, c1, c2⟩ := cells3_of (show (stored3 w2 (w.heap.size + 1 + 1) r a b c d).drew.heap[w.heap.size + 1 + 1]? = _ from heap_of_cells (heap_of_cells (heap_of_cells HBX2.out.b6 0 _) 1 _) 2 _)
    refine bodyPost_ret (v := .tuple #[rval r a b c d, .bool true]) ?_ rfl ⟨_, NN N w w1, F, S, rfl, fun z hz => .inl hz, p1.drew, p2.kept ((Kept.refl _ _).drew), p3.drew⟩
    unfold stored3 at c0 c1 c2
    unfold rval
    simp [results, Try.results18, go_sem, c0, c1, c2]

set_option maxRecDepth 100000 in
set_option maxHeartbeats 6400000 in
theorem does_crash {w : World} {N : Nat → Prop} {g a b c d r : Nat} {F : Nat → List UInt8} {S : Nat → Nat} (hD : Disk w g N r F S) (hR : Rfd w N a b c d F S) (file x y : Int) (s : ByteArray) {ka : Option Addr} {km kc : Nat} {L : List Int} (hL : Ints w N (.slice ka km kc) L) :
    Calls Try.prog 18 #[.pointer (some ⟨g, 0, none⟩), rval r a b c d, .agg #[.int .i64 7, .int .i64 file, .int .i64 x, .int .i64 y, .string s, .slice ka km kc]] w (DidPost w N g r) := by
  have hbox := Dbx.new w r a b c d 7 file x y s (.slice ka km kc)
  have hbel : Below w.heap.size w (((w.alloc (.cells #[.int .i64 (r : Nat), .slice (some ⟨a, 0, none⟩) 256 c, .slice (some ⟨b, 0, none⟩) 256 d] 45)).alloc (.cells #[.int .i64 7, .int .i64 file, .int .i64 x, .int .i64 y, .string s, .slice ka km kc] 49)).alloc (.cells #[.int .i64 0, .slice none 0 0, .slice none 0 0] 45)) :=
    (((Below.refl _ _).alloc (Nat.le_refl _) _).alloc (by simp) _).alloc (by simp; omega) _
  obtain ⟨xb, hxb⟩ : ∃ xb, xb = UInt8.ofNat (x % 256).toNat := ⟨_, rfl⟩
  have hrs : ∀ W M, Rfd W M a b c d F S → Ints W M (.slice ka km kc) L → Calls Try.prog 27 #[rval r a b c d, .slice ka km kc, .int .i64 x] W fun e w' => ∃ v, e = .returned v ∧ Rf w' (NN M W w') v r (crashF F S L xb 256) (crashS F S L xb 256) ∧ Below W.heap.size W w' :=
    fun W M h hi => rcrash_any h (fun k hk => hD.sure hk) (fun k hk => by have := hD.len hk; have := hD.r2; omega) hi x xb hxb
  have hds : ∀ W M, Disk W g M r F S → Ints W M (.slice ka km kc) L → Calls Try.prog 12 #[.pointer (some ⟨g, 0, none⟩), .slice ka km kc, .int .i64 x] W fun e w' => e = .returned (.int .i64 0) ∧ Disk w' g M r (crashF F S L xb 256) (crashS F S L xb 256) ∧ Kept M W w' :=
    fun W M h hi => crash_ok h hi x xb hxb
  have HR1 := Lib.hid hrs
  have HD1 := Lib.hid hds
  have HR := Lib.hid hR
  have HD := Lib.hid hD
  have HL := Lib.hid hL
  clear hR hD hrs hds hL hxb
  unfold rval at HR1 ⊢
  go_enter Try.func18, Try.ntmps18
  go_wp2_with fail
  generalize ((w.alloc (.cells #[.int .i64 (r : Nat), .slice (some ⟨a, 0, none⟩) 256 c, .slice (some ⟨b, 0, none⟩) 256 d] 45)).alloc (.cells #[.int .i64 7, .int .i64 file, .int .i64 x, .int .i64 y, .string s, .slice ka km kc] 49)).alloc (.cells #[.int .i64 0, .slice none 0 0, .slice none 0 0] 45) = w1 at *
  have HBX := Lib.hid hbox
  have HB1 := Lib.hid hbel
  clear hbox hbel
  obtain ⟨z0, z1, z2⟩ := HBX.out.q
  obtain ⟨o0, o1, o2, o3, o4, o5⟩ := HBX.out.op
  have hl1 := HB1.out.size
  have hw13 := HBX.out.lt
  clear o0 o1 o3 o4
  have n3 : ¬ w.heap.size + 1 = w.heap.size + 1 + 1 := by omega
  have n4 : ¬ w.heap.size = w.heap.size + 1 + 1 := by omega
  go_region_held3 (fun w' => w'.cell? ⟨w.heap.size, 0, none⟩ = some (.int .i64 (r : Nat)) ∧ w'.cell? ⟨w.heap.size, 1, none⟩ = some (.slice (some ⟨a, 0, none⟩) 256 c) ∧ w'.cell? ⟨w.heap.size, 2, none⟩ = some (.slice (some ⟨b, 0, none⟩) 256 d) ∧ w'.cell? ⟨w.heap.size + 1, 5, none⟩ = some (.slice ka km kc) ∧ w'.cell? ⟨w.heap.size + 1, 2, none⟩ = some (.int .i64 x)) (go_keep)
    (first
      | (go_at_call 27; refine (HR1.out _ N ((HR.out.below HB1.out).kept ((Kept.refl N _).drew)) ((HL.out.below HB1.out).kept ((Kept.refl N _).drew))).mono ?_; rintro e w2 ⟨v, rfl, hrf, hb2⟩; obtain ⟨a', b', c', d', rfl, hR2⟩ := hrf; unfold rval; have HR2 := Lib.hid hR2; have HX2 := Lib.hid (HBX.out.below ((Below.refl _ _).drew.trans hb2)); have HB2 := Lib.hid hb2; clear hR2 hb2; have HB02 : Hid (Below w.heap.size w w2) := HB1.out.trans (((Below.refl w1.heap.size w1).drew.trans HB2.out).mono hl1); obtain ⟨y0, y1, y2⟩ := HX2.out.q; obtain ⟨q0, q1, q2, q3, q4, q5⟩ := HX2.out.op; clear q0 q1 q3 q4)
      | (go_at_call 12; refine (HD1.out w2 (NN N w w2) (HD.out.below HB02.out) ((HL.out.below HB02.out).more (fun z h => .inl h))).mono ?_; rintro e w4 ⟨rfl, hD4, hK4⟩; have HD4 := Lib.hid hD4; have HK4 := Lib.hid hK4; have HX4 := Lib.hid (HX2.out.kept hK4 (fun z h1 h2 => .inr ⟨h1, by have := HX2.out.lt; omega⟩)); clear hD4 hK4; obtain ⟨v0, v1, v2⟩ := HX4.out.q; obtain ⟨p0, p1, p2, p3, p4, p5⟩ := HX4.out.op; clear p0 p1 p3 p4; obtain ⟨s0, s1, s2⟩ := HX4.out.res; have f0 := HX4.out.resf 0; have f1 := HX4.out.resf 1; have f2 := HX4.out.resf 2; have t1 := far3 (g := w.heap.size + 1 + 1) (u0 := .int .i64 (r : Nat)) (u1 := .slice (some ⟨a', 0, none⟩) 256 c') (u2 := .slice (some ⟨b', 0, none⟩) 256 d') v0 n4; have t2 := far3 (g := w.heap.size + 1 + 1) (u0 := .int .i64 (r : Nat)) (u1 := .slice (some ⟨a', 0, none⟩) 256 c') (u2 := .slice (some ⟨b', 0, none⟩) 256 d') v1 n4; have t3 := far3 (g := w.heap.size + 1 + 1) (u0 := .int .i64 (r : Nat)) (u1 := .slice (some ⟨a', 0, none⟩) 256 c') (u2 := .slice (some ⟨b', 0, none⟩) 256 d') v2 n4; have t4 := far3 (g := w.heap.size + 1 + 1) (u0 := .int .i64 (r : Nat)) (u1 := .slice (some ⟨a', 0, none⟩) 256 c') (u2 := .slice (some ⟨b', 0, none⟩) 256 d') p5 n3; have t5 := far3 (g := w.heap.size + 1 + 1) (u0 := .int .i64 (r : Nat)) (u1 := .slice (some ⟨a', 0, none⟩) 256 c') (u2 := .slice (some ⟨b', 0, none⟩) 256 d') p2 n3))
  all_goals
    go_wp2_with fail
    have hl2 : w1.heap.size ≤ w2.heap.size := HB2.out.size
    obtain ⟨p1, p2, p3⟩ := stored_did (wx := w4) (M := NN N w w2) HD.out.lt (.inr ⟨by omega, by omega⟩) HD4.out ((HR2.out.more (N' := NN N w w2) (fun z hz => NN.nn (w1 := w1.drew) hl1 (Nat.le_refl _) hz)).kept HK4.out) (NN.ne (w1 := w1.drew) HD.out.lt hw13 HR2.out.na) (NN.ne (w1 := w1.drew) HD.out.lt hw13 HR2.out.nb) ((Kept.of_below HB02.out HD.out.lt).trans (HK4.out.less (fun z hz => .inl hz)))
    obtain ⟨c0, c1, c2⟩ := cells3_of (show (stored3 w4 (w.heap.size + 1 + 1) r a' b' c' d').heap[w.heap.size + 1 + 1]? = _ from heap_of_cells (heap_of_cells (heap_of_cells HX4.out.b6 0 _) 1 _) 2 _)
    refine bodyPost_ret (v := .tuple #[rval r a' b' c' d', .bool true]) ?_ rfl ⟨_, NN N w w2, _, _, rfl, fun z hz => .inl hz, p1, p2, p3⟩
    unfold stored3 at c0 c1 c2
    unfold rval
    simp [results, Try.results18, go_sem, c0, c1, c2]

end Go.Proofs.Ytgcghdinccdphaa
