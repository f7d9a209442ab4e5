/-
  does of the laws of package disk, at Sync and Bytes.
-/
import Derived.Test.YtgcghdinccdphaaDoes
namespace Go.Proofs.Ytgcghdinccdphaa
open Go.RowKit

set_option maxRecDepth 100000 in
set_option maxHeartbeats 6400000 in
theorem does_sync {w : World} {N : Nat → Prop} {g a b c d r : Nat} {F : Nat → List UInt8} {S : Nat → Nat} (hD : Disk w g N r F S) (hR : Rfd w N a b c d F S) (file x y : Int) (s : ByteArray) (ka : Option Addr) (km kc : Nat) :
    Calls Try.prog 18 #[.pointer (some ⟨g, 0, none⟩), rval r a b c d, .agg #[.int .i64 4, .int .i64 file, .int .i64 x, .int .i64 y, .string s, .slice ka km kc]] w (DidPost w N g r) := by
  have hbox := Dbx.new w r a b c d 4 file x y s (.slice ka km kc)
  have hbel : Below w.heap.size w (((w.alloc (.cells #[.int .i64 (r : Nat), .slice (some ⟨a, 0, none⟩) 256 c, .slice (some ⟨b, 0, none⟩) 256 d] 45)).alloc (.cells #[.int .i64 4, .int .i64 file, .int .i64 x, .int .i64 y, .string s, .slice ka km kc] 49)).alloc (.cells #[.int .i64 0, .slice none 0 0, .slice none 0 0] 45)) :=
    (((Below.refl _ _).alloc (Nat.le_refl _) _).alloc (by simp) _).alloc (by simp; omega) _
  have hrs : ∀ W M, Rfd W M a b c d F S → Calls Try.prog 25 #[rval r a b c d] W fun e w' => ∃ v, e = .returned v ∧ Rf w' (NN M W w') v r F (synced F S 256) ∧ Below W.heap.size W w' := fun W M h => rsync_any h (fun k hk => hD.sure hk)
  have HR1 := Lib.hid hrs
  have HR := Lib.hid hR
  have HD := Lib.hid hD
  clear hR hD hrs
  unfold rval
  obtain ⟨z0, z1, z2⟩ := hbox.q
  go_enter Try.func18, Try.ntmps18
  go_wp2_with fail
  generalize ((w.alloc (.cells #[.int .i64 (r : Nat), .slice (some ⟨a, 0, none⟩) 256 c, .slice (some ⟨b, 0, none⟩) 256 d] 45)).alloc (.cells #[.int .i64 4, .int .i64 file, .int .i64 x, .int .i64 y, .string s, .slice ka km kc] 49)).alloc (.cells #[.int .i64 0, .slice none 0 0, .slice none 0 0] 45) = w1 at *
  refine (HR1.out w1 N (HR.out.below hbel)).mono ?_
  rintro e w2 ⟨v, rfl, hrf, hb2⟩
  obtain ⟨a', b', c', d', rfl, hR2⟩ := hrf
  unfold rval
  have hD2 := (HD.out.below hbel).below hb2
  have hbox2 := hbox.below hb2
  have hb02 : Below w.heap.size w w2 := hbel.trans (hb2.mono hbel.size)
  have HK2 : Hid (Kept N w w2) := Kept.of_below hb02 HD.out.lt
  have hl1 := hbel.size
  have hl2 := hb2.size
  have hw13 := hbox.lt
  have HD2 : Hid (Disk w2 g (NN N w w2) r F S) := hD2.less (fun z hz => by
    rcases hz with hz | ⟨h1, h2⟩
    · exact .inl (.inl hz)
    · rcases Nat.lt_or_ge z w1.heap.size with h3 | h3
      · exact .inl (.inr ⟨h1, h3⟩)
      · exact .inr ⟨h3, h2⟩)
  have HR2 : Hid (Rfd w2 (NN N w w2) a' b' c' d' F (synced F S 256)) := hR2.more (fun z hz => NN.nn hl1 (Nat.le_refl _) hz)
  have HA1 := Lib.hid (NN.ne HD.out.lt hw13 hR2.na)
  have HA2 := Lib.hid (NN.ne HD.out.lt hw13 hR2.nb)
  have HBX := Lib.hid hbox2
  have HM : Hid (∀ z, w.heap.size ≤ z → z < w.heap.size + 3 → NN N w w2 z) := fun z h1 h2 => .inr ⟨h1, by omega⟩
  clear hD2 hbox hbox2 hb02 hR2 hb2 hbel z0 z1 z2
  go_wp2_with fail
  refine (sync_ok HD2.out).mono ?_
  rintro e w4 ⟨rfl, hD5, hK5⟩
  have HD5 := Lib.hid hD5
  have HK5 := Lib.hid hK5
  have hx1 := HBX.out.kept hK5 HM.out
  have HX1 := Lib.hid hx1
  obtain ⟨s0, s1, s2⟩ := hx1.res
  have f0 := hx1.resf 0
  have f1 := hx1.resf 1
  have f2 := hx1.resf 2
  clear hD5 hK5 hx1
  go_wp2_with fail
  obtain ⟨p1, p2, p3⟩ := stored_did HD.out.lt (HM.out _ (by omega) (by omega)) HD5.out (HR2.out.kept HK5.out) HA1.out HA2.out (HK2.out.trans (HK5.out.less (fun z hz => .inl hz)))
  obtain ⟨c0, c1, c2⟩ := cells3_of (show (stored3 w4 (w.heap.size + 1 + 1) r a' b' c' d').heap[w.heap.size + 1 + 1]? = _ from heap_of_cells (heap_of_cells (heap_of_cells HX1.out.b6 0 _) 1 _) 2 _)
  refine bodyPost_ret (v := .tuple #[rval r a' b' c' d', .bool true]) ?_ rfl ⟨_, NN N w w2, F, _, rfl, fun z hz => .inl hz, p1, p2, p3⟩
  unfold stored3 at c0 c1 c2
  unfold rval
  simp [results, Try.results18, go_sem, c0, c1, c2]

set_option maxRecDepth 100000 in
set_option maxHeartbeats 6400000 in
theorem does_bytes {w : World} {N : Nat → Prop} {g a b c d r : Nat} {F : Nat → List UInt8} {S : Nat → Nat} (hD : Disk w g N r F S) (hR : Rfd w N a b c d F S) (file x y : Int) (s : ByteArray) (hx : -9223372036854775808 ≤ x ∧ x ≤ 9223372036854775807) (hy : -9223372036854775808 ≤ y ∧ y ≤ 9223372036854775807) (ka : Option Addr) (km kc : Nat) :
    Calls Try.prog 18 #[.pointer (some ⟨g, 0, none⟩), rval r a b c d, .agg #[.int .i64 2, .int .i64 file, .int .i64 x, .int .i64 y, .string s, .slice ka km kc]] w (DidPost w N g r) := by
  have hbox := Dbx.new w r a b c d 2 file x y s (.slice ka km kc)
  have hbel : Below w.heap.size w (((w.alloc (.cells #[.int .i64 (r : Nat), .slice (some ⟨a, 0, none⟩) 256 c, .slice (some ⟨b, 0, none⟩) 256 d] 45)).alloc (.cells #[.int .i64 2, .int .i64 file, .int .i64 x, .int .i64 y, .string s, .slice ka km kc] 49)).alloc (.cells #[.int .i64 0, .slice none 0 0, .slice none 0 0] 45)) :=
    (((Below.refl _ _).alloc (Nat.le_refl _) _).alloc (by simp) _).alloc (by simp; omega) _
  obtain ⟨tx, code, hr1, hd1⟩ := bytes_pair hD file x y hx hy
  have HR1 := Lib.hid hr1
  have HD1 := Lib.hid hd1
  have HR := Lib.hid hR
  have HD := Lib.hid hD
  clear hR hD hr1 hd1
  unfold rval
  go_enter Try.func18, Try.ntmps18
  go_wp2_with fail
  generalize ((w.alloc (.cells #[.int .i64 (r : Nat), .slice (some ⟨a, 0, none⟩) 256 c, .slice (some ⟨b, 0, none⟩) 256 d] 45)).alloc (.cells #[.int .i64 2, .int .i64 file, .int .i64 x, .int .i64 y, .string s, .slice ka km kc] 49)).alloc (.cells #[.int .i64 0, .slice none 0 0, .slice none 0 0] 45) = w1 at *
  have HD2 := Lib.hid (HD.out.below hbel)
  have HR2 := Lib.hid (HR.out.below hbel)
  obtain ⟨z0, z1, z2⟩ := hbox.q
  obtain ⟨o0, o1, o2, o3, o4, o5⟩ := hbox.op
  have HBX := Lib.hid hbox
  have HB1 := Lib.hid hbel
  have hlt3 := hbox.lt
  clear hbox hbel
  refine (HD1.out w1 _ HD2.out).mono ?_
  rintro e w2 ⟨rfl, rfl⟩
  go_wp2_with fail
  refine (HR1.out w1 _ _ _ _ _ HR2.out).mono ?_
  rintro e w2 ⟨rfl, hb2⟩
  have HB2 := Lib.hid hb2
  have HBX2 := Lib.hid (HBX.out.below hb2)
  clear hb2 z0 z1 z2 o0 o1 o2 o3 o4 o5
  obtain ⟨z0, z1, z2⟩ := HBX2.out.q
  obtain ⟨s0, s1, s2⟩ := HBX2.out.res
  have f0 := HBX2.out.resf 0
  have f1 := HBX2.out.resf 1
  have f2 := HBX2.out.resf 2
  go_wp2_with fail
  have hb02 : Below w.heap.size w w2 := HB1.out.trans (HB2.out.mono HB1.out.size)
  have hl2 := HB2.out.size
  have hal := HR.out.alt
  have hbl := HR.out.blt
  obtain ⟨p1, p2, p3⟩ := stored_did (wx := w2) (M := NN N w w2) HD.out.lt (.inr ⟨by omega, by omega⟩) (HD.out.below hb02) ((HR.out.below hb02).more (fun z hz => .inl hz)) (by omega) (by omega) (Kept.of_below hb02 HD.out.lt)
  obtain ⟨c0, c1, c2⟩ := cells3_of (show (stored3 w2 (w.heap.size + 1 + 1) r a b c d).heap[w.heap.size + 1 + 1]? = _ from heap_of_cells (heap_of_cells (heap_of_cells HBX2.out.b6 0 _) 1 _) 2 _)
  refine bodyPost_ret (v := .tuple #[rval r a b c d, .bool true]) ?_ rfl ⟨_, NN N w w2, F, S, rfl, fun z hz => .inl hz, p1, p2, p3⟩
  unfold stored3 at c0 c1 c2
  unfold rval
  simp [results, Try.results18, go_sem, c0, c1, c2]

end Go.Proofs.Ytgcghdinccdphaa
