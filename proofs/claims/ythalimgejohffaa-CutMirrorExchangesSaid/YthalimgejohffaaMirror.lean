/-
  cut.mirror: its walk. Own text.
-/
import Derived.Test.YthalimgejohffaaReverse
import Derived.Test.YthalimgejohffaaRegion
namespace Go.Proofs.Ythalimgejohffaa
open Go.RowKit
set_option linter.unusedVariables false
def pick2 (s : Bool) (x y : Tree) : Tree := if s = true then x else y
set_option maxRecDepth 100000 in
set_option maxHeartbeats 4000000 in
theorem mirror_leaf (k a i : Int) (oa : Option Addr) (ca : Nat) (W H : Int) (s : Bool) (w : World)
    (hi : -9223372036854775808 ≤ k ∧ k ≤ 9223372036854775807 ∧ -9223372036854775808 ≤ a ∧ a ≤ 9223372036854775807 ∧ -9223372036854775808 ≤ i ∧ i ≤ 9223372036854775807) :
    Calls Try.prog 34 #[.int .i64 W, .int .i64 H, .agg #[.int .i64 k, .int .i64 a, .int .i64 i, .slice oa 0 ca], .bool s] w (RetTree (.mk k a i []) w) := by
  go_enter Try.func34, Try.ntmps34
  go_wp2
  go_returns
  refine ⟨?_, k, a, i, [], none, 0, rfl, rfl, TreeB.leaf _ _ _ k a i 0 hi⟩
  go_grown
set_option maxRecDepth 100000 in
set_option maxHeartbeats 8000000 in
theorem mirror_sides (s : Bool) (a k0 a0 i0 k1 a1 i1 : Int) (n0 n1 : Nat) (tb toff ca p0 p1 : Nat) (o0 o1 : Option Addr) (W H : Int) (X0 X1 T0 T1 : Tree) (w : World) (hW : -3280 ≤ W ∧ W ≤ 40 ∧ -3280 ≤ H ∧ H ≤ 40) (ha : 1 ≤ a ∧ a ≤ 39)
    (c0 : w.cell? ⟨tb, toff, none⟩ = some (.int .i64 k0))
    (c1 : w.cell? ⟨tb, toff + 1, none⟩ = some (.int .i64 a0))
    (c2 : w.cell? ⟨tb, toff + 2, none⟩ = some (.int .i64 i0))
    (c3 : w.cell? ⟨tb, toff + 3, none⟩ = some (.slice o0 n0 p0))
    (c4 : w.cell? ⟨tb, toff + 4, none⟩ = some (.int .i64 k1))
    (c5 : w.cell? ⟨tb, toff + 4 + 1, none⟩ = some (.int .i64 a1))
    (c6 : w.cell? ⟨tb, toff + 4 + 2, none⟩ = some (.int .i64 i1))
    (c7 : w.cell? ⟨tb, toff + 4 + 3, none⟩ = some (.slice o1 n1 p1))
    (iw0 : ∀ w', Below w.heap.size w w' → Calls Try.prog 34 #[.int .i64 W, .int .i64 a, .agg #[.int .i64 k0, .int .i64 a0, .int .i64 i0, .slice o0 n0 p0], .bool s] w' (RetTree X0 w'))
    (iw1 : ∀ w', Below w.heap.size w w' → Calls Try.prog 34 #[.int .i64 W, .int .i64 (W - a), .agg #[.int .i64 k1, .int .i64 a1, .int .i64 i1, .slice o1 n1 p1], .bool s] w' (RetTree X1 w'))
    (ih0 : ∀ w', Below w.heap.size w w' → Calls Try.prog 34 #[.int .i64 a, .int .i64 H, .agg #[.int .i64 k0, .int .i64 a0, .int .i64 i0, .slice o0 n0 p0], .bool s] w' (RetTree T0 w'))
    (ih1 : ∀ w', Below w.heap.size w w' → Calls Try.prog 34 #[.int .i64 (W - a), .int .i64 H, .agg #[.int .i64 k1, .int .i64 a1, .int .i64 i1, .slice o1 n1 p1], .bool s] w' (RetTree T1 w'))
    : Calls Try.prog 34 #[.int .i64 W, .int .i64 H, .agg #[.int .i64 2, .int .i64 a, .int .i64 0, .slice (some ⟨tb, toff, none⟩) 2 ca], .bool s] w (RetTree (pick2 s (.mk 2 (W - a) 0 [T1, T0]) (.mk 2 a 0 [T0, T1])) w) := by
  have V0 := Lib.hid iw0
  have V1 := Lib.hid iw1
  clear iw0 iw1
  have I0 := Lib.hid ih0
  have I1 := Lib.hid ih1
  clear ih0 ih1
  go_enter Try.func34, Try.ntmps34
  go_wp2
  go_quiet (fail)
  go_wp2
  have hb2 : Below w.heap.size w (((w.alloc (.cells #[.int .i64 2, .int .i64 a, .int .i64 0, .slice (some ⟨tb, toff, none⟩) 2 ca] 25)).alloc (.cells #[.int .i64 0, .int .i64 0, .int .i64 0, .slice none 0 0] 25)).drewN nq) := bdrewN (balloc (balloc (Below.refl _ w) _) _) nq
  have f0 : (((w.alloc (.cells #[.int .i64 2, .int .i64 a, .int .i64 0, .slice (some ⟨tb, toff, none⟩) 2 ca] 25)).alloc (.cells #[.int .i64 0, .int .i64 0, .int .i64 0, .slice none 0 0] 25)).drewN nq).cell? ⟨w.heap.size, 0, none⟩ = some (.int .i64 2) := by go_simp
  have f3 : (((w.alloc (.cells #[.int .i64 2, .int .i64 a, .int .i64 0, .slice (some ⟨tb, toff, none⟩) 2 ca] 25)).alloc (.cells #[.int .i64 0, .int .i64 0, .int .i64 0, .slice none 0 0] 25)).drewN nq).cell? ⟨w.heap.size, 3, none⟩ = some (.slice (some ⟨tb, toff, none⟩) 2 ca) := by go_simp
  have g0 : (((w.alloc (.cells #[.int .i64 2, .int .i64 a, .int .i64 0, .slice (some ⟨tb, toff, none⟩) 2 ca] 25)).alloc (.cells #[.int .i64 0, .int .i64 0, .int .i64 0, .slice none 0 0] 25)).drewN nq).cell? ⟨w.heap.size + 1, 0, none⟩ = some (.int .i64 0) := by go_simp
  have gf0 : (((w.alloc (.cells #[.int .i64 2, .int .i64 a, .int .i64 0, .slice (some ⟨tb, toff, none⟩) 2 ca] 25)).alloc (.cells #[.int .i64 0, .int .i64 0, .int .i64 0, .slice none 0 0] 25)).drewN nq).frozen? ⟨w.heap.size + 1, 0, none⟩ = false := by go_simp
  have g1 : (((w.alloc (.cells #[.int .i64 2, .int .i64 a, .int .i64 0, .slice (some ⟨tb, toff, none⟩) 2 ca] 25)).alloc (.cells #[.int .i64 0, .int .i64 0, .int .i64 0, .slice none 0 0] 25)).drewN nq).cell? ⟨w.heap.size + 1, 1, none⟩ = some (.int .i64 0) := by go_simp
  have gf1 : (((w.alloc (.cells #[.int .i64 2, .int .i64 a, .int .i64 0, .slice (some ⟨tb, toff, none⟩) 2 ca] 25)).alloc (.cells #[.int .i64 0, .int .i64 0, .int .i64 0, .slice none 0 0] 25)).drewN nq).frozen? ⟨w.heap.size + 1, 1, none⟩ = false := by go_simp
  have g2 : (((w.alloc (.cells #[.int .i64 2, .int .i64 a, .int .i64 0, .slice (some ⟨tb, toff, none⟩) 2 ca] 25)).alloc (.cells #[.int .i64 0, .int .i64 0, .int .i64 0, .slice none 0 0] 25)).drewN nq).cell? ⟨w.heap.size + 1, 2, none⟩ = some (.int .i64 0) := by go_simp
  have gf2 : (((w.alloc (.cells #[.int .i64 2, .int .i64 a, .int .i64 0, .slice (some ⟨tb, toff, none⟩) 2 ca] 25)).alloc (.cells #[.int .i64 0, .int .i64 0, .int .i64 0, .slice none 0 0] 25)).drewN nq).frozen? ⟨w.heap.size + 1, 2, none⟩ = false := by go_simp
  have g3 : (((w.alloc (.cells #[.int .i64 2, .int .i64 a, .int .i64 0, .slice (some ⟨tb, toff, none⟩) 2 ca] 25)).alloc (.cells #[.int .i64 0, .int .i64 0, .int .i64 0, .slice none 0 0] 25)).drewN nq).cell? ⟨w.heap.size + 1, 3, none⟩ = some (.slice none 0 0) := by go_simp
  have gf3 : (((w.alloc (.cells #[.int .i64 2, .int .i64 a, .int .i64 0, .slice (some ⟨tb, toff, none⟩) 2 ca] 25)).alloc (.cells #[.int .i64 0, .int .i64 0, .int .i64 0, .slice none 0 0] 25)).drewN nq).frozen? ⟨w.heap.size + 1, 3, none⟩ = false := by go_simp
  have lt2 : w.heap.size + 1 < (((w.alloc (.cells #[.int .i64 2, .int .i64 a, .int .i64 0, .slice (some ⟨tb, toff, none⟩) 2 ca] 25)).alloc (.cells #[.int .i64 0, .int .i64 0, .int .i64 0, .slice none 0 0] 25)).drewN nq).heap.size := by simp [World.drewN]
  revert hb2 f0 f3 g0 gf0 g1 gf1 g2 gf2 g3 gf3 lt2
  generalize World.drewN _ nq = w2
  intro hb2 f0 f3 g0 gf0 g1 gf1 g2 gf2 g3 gf3 lt2
  have hS : Hid (∀ w', Below w2.heap.size w2 w' → (Below w2.heap.size w2 w' ∧ w'.cell? ⟨w.heap.size, 3, none⟩ = some (.slice (some ⟨tb, toff, none⟩) 2 ca) ∧ w'.cell? ⟨tb, toff, none⟩ = some (.int .i64 k0) ∧ w'.cell? ⟨tb, toff + 1, none⟩ = some (.int .i64 a0) ∧ w'.cell? ⟨tb, toff + 2, none⟩ = some (.int .i64 i0) ∧ w'.cell? ⟨tb, toff + 3, none⟩ = some (.slice o0 n0 p0) ∧ w'.cell? ⟨tb, toff + 4, none⟩ = some (.int .i64 k1) ∧ w'.cell? ⟨tb, toff + 4 + 1, none⟩ = some (.int .i64 a1) ∧ w'.cell? ⟨tb, toff + 4 + 2, none⟩ = some (.int .i64 i1) ∧ w'.cell? ⟨tb, toff + 4 + 3, none⟩ = some (.slice o1 n1 p1))) := fun w' hb =>
    ⟨hb, keepCell hb f3, keepCell hb (keepCell hb2 c0), keepCell hb (keepCell hb2 c1), keepCell hb (keepCell hb2 c2), keepCell hb (keepCell hb2 c3), keepCell hb (keepCell hb2 c4), keepCell hb (keepCell hb2 c5), keepCell hb (keepCell hb2 c6), keepCell hb (keepCell hb2 c7)⟩
  have U0 : Hid (∀ w', Below w2.heap.size w2 w' → Calls Try.prog 34 #[.int .i64 W, .int .i64 a, .agg #[.int .i64 k0, .int .i64 a0, .int .i64 i0, .slice o0 n0 p0], .bool s] w' (RetTree X0 w')) := fun w' hb => V0.out w' (bthen hb2 hb)
  have U1 : Hid (∀ w', Below w2.heap.size w2 w' → Calls Try.prog 34 #[.int .i64 W, .int .i64 (W - a), .agg #[.int .i64 k1, .int .i64 a1, .int .i64 i1, .slice o1 n1 p1], .bool s] w' (RetTree X1 w')) := fun w' hb => V1.out w' (bthen hb2 hb)
  have J0 : Hid (∀ w', Below w2.heap.size w2 w' → Calls Try.prog 34 #[.int .i64 a, .int .i64 H, .agg #[.int .i64 k0, .int .i64 a0, .int .i64 i0, .slice o0 n0 p0], .bool s] w' (RetTree T0 w')) := fun w' hb => I0.out w' (bthen hb2 hb)
  have J1 : Hid (∀ w', Below w2.heap.size w2 w' → Calls Try.prog 34 #[.int .i64 (W - a), .int .i64 H, .agg #[.int .i64 k1, .int .i64 a1, .int .i64 i1, .slice o1 n1 p1], .bool s] w' (RetTree T1 w')) := fun w' hb => I1.out w' (bthen hb2 hb)
  have hb2 := Lib.hid hb2
  have lt2 := Lib.hid lt2
  clear I0 I1 c0 c1 c2 c3 c4 c5 c6 c7 V0 V1
  go_region_held3 (fun w' => Below w2.heap.size w2 w' ∧ w'.cell? ⟨w.heap.size, 3, none⟩ = some (.slice (some ⟨tb, toff, none⟩) 2 ca) ∧ w'.cell? ⟨tb, toff, none⟩ = some (.int .i64 k0) ∧ w'.cell? ⟨tb, toff + 1, none⟩ = some (.int .i64 a0) ∧ w'.cell? ⟨tb, toff + 2, none⟩ = some (.int .i64 i0) ∧ w'.cell? ⟨tb, toff + 3, none⟩ = some (.slice o0 n0 p0) ∧ w'.cell? ⟨tb, toff + 4, none⟩ = some (.int .i64 k1) ∧ w'.cell? ⟨tb, toff + 4 + 1, none⟩ = some (.int .i64 a1) ∧ w'.cell? ⟨tb, toff + 4 + 2, none⟩ = some (.int .i64 i1) ∧ w'.cell? ⟨tb, toff + 4 + 3, none⟩ = some (.slice o1 n1 p1))
    ((refine hS.out _ ?_; go_grown))
    (first | fail | (go_simp; go_at_call 34; (with_reducible refine (U0.out _ (And.left (by assumption))).mono ?_); rintro e w3 ⟨hb3, k3, a3, i3, l3, o3, p3, rfl, rfl, hT3⟩; have hz3 : Below w2.heap.size w2 w3 := bthen (And.left (by assumption)) hb3; have sz3 := hz3.size) | (go_simp; go_at_call 34; (with_reducible refine (U1.out _ (And.left (by assumption))).mono ?_); rintro e w4 ⟨hb4, k4, a4, i4, l4, o4, p4, rfl, rfl, hT4⟩; have hz4 : Below w2.heap.size w2 w4 := bthen (And.left (by assumption)) hb4; have sz4 := hz4.size))
  have hz5 : Below w2.heap.size w2 (w4.alloc (.cells #[.int .i64 k3, .int .i64 a3, .int .i64 i3, .slice o3 l3.length p3, .int .i64 k4, .int .i64 a4, .int .i64 i4, .slice o4 l4.length p4] 25)) := balloc hz4 _
  revert hz5
  generalize World.alloc w4 _ = w5
  intro hz5
  have hz5 := Lib.hid hz5
  have f05 := keepCell hz5.out f0
  clear hz3 hz4 hb3 hb4 hT3 hT4 sz3 sz4
  go_wp2
  have hS5 := hS
  go_region_held3 (fun w' => Below w2.heap.size w2 w' ∧ w'.cell? ⟨w.heap.size, 3, none⟩ = some (.slice (some ⟨tb, toff, none⟩) 2 ca) ∧ w'.cell? ⟨tb, toff, none⟩ = some (.int .i64 k0) ∧ w'.cell? ⟨tb, toff + 1, none⟩ = some (.int .i64 a0) ∧ w'.cell? ⟨tb, toff + 2, none⟩ = some (.int .i64 i0) ∧ w'.cell? ⟨tb, toff + 3, none⟩ = some (.slice o0 n0 p0) ∧ w'.cell? ⟨tb, toff + 4, none⟩ = some (.int .i64 k1) ∧ w'.cell? ⟨tb, toff + 4 + 1, none⟩ = some (.int .i64 a1) ∧ w'.cell? ⟨tb, toff + 4 + 2, none⟩ = some (.int .i64 i1) ∧ w'.cell? ⟨tb, toff + 4 + 3, none⟩ = some (.slice o1 n1 p1))
    ((refine hS.out _ ?_; (first | exact hz5.out | exact hz5.out.drew | go_grown)))
    (first | fail | (go_simp; go_at_call 34; (with_reducible refine (J0.out _ (And.left (by assumption))).mono ?_); rintro e w6 ⟨hb6, k6, a6, i6, l6, o6, p6, rfl, rfl, hT6⟩; have hz6 : Below w2.heap.size w2 w6 := bthen (And.left (by assumption)) hb6; have sz6 := hz6.size) | (go_simp; go_at_call 34; (with_reducible refine (J1.out _ (And.left (by assumption))).mono ?_); rintro e w7 ⟨hb7, k7, a7, i7, l7, o7, p7, rfl, rfl, hT7⟩; have hz7 : Below w2.heap.size w2 w7 := bthen (And.left (by assumption)) hb7; have sz7 := hz7.size))
  have sz5 : w2.heap.size ≤ w5.heap.size := hz5.out.size
  have s67 : w6.heap.size ≤ w7.heap.size := hb7.size
  have hz8 : Below w2.heap.size w2 (w7.alloc (.cells #[.int .i64 k6, .int .i64 a6, .int .i64 i6, .slice o6 l6.length p6, .int .i64 k7, .int .i64 a7, .int .i64 i7, .slice o7 l7.length p7] 25)) := balloc hz7 _
  have two : Two (w7.alloc (.cells #[.int .i64 k6, .int .i64 a6, .int .i64 i6, .slice o6 l6.length p6, .int .i64 k7, .int .i64 a7, .int .i64 i7, .slice o7 l7.length p7] 25)) w7.heap.size k6 a6 i6 o6 l6.length p6 k7 a7 i7 o7 l7.length p7 := ⟨by go_simp, by go_simp, by go_simp, by go_simp, by go_simp, by go_simp, by go_simp, by go_simp, fun i => by go_simp⟩
  have hA : TreeB w2.heap.size w7.heap.size (w7.alloc (.cells #[.int .i64 k6, .int .i64 a6, .int .i64 i6, .slice o6 l6.length p6, .int .i64 k7, .int .i64 a7, .int .i64 i7, .slice o7 l7.length p7] 25)) (.mk k6 a6 i6 l6) [.int .i64 k6, .int .i64 a6, .int .i64 i6, .slice o6 l6.length p6] := ((hT6.under hb7 (Nat.le_refl _)).mono sz5 s67).alloc _
  have hB : TreeB w2.heap.size w7.heap.size (w7.alloc (.cells #[.int .i64 k6, .int .i64 a6, .int .i64 i6, .slice o6 l6.length p6, .int .i64 k7, .int .i64 a7, .int .i64 i7, .slice o7 l7.length p7] 25)) (.mk k7 a7 i7 l7) [.int .i64 k7, .int .i64 a7, .int .i64 i7, .slice o7 l7.length p7] := (hT7.mono sz6 (Nat.le_refl _)).alloc _
  have hs8 : (w7.alloc (.cells #[.int .i64 k6, .int .i64 a6, .int .i64 i6, .slice o6 l6.length p6, .int .i64 k7, .int .i64 a7, .int .i64 i7, .slice o7 l7.length p7] 25)).heap.size = w7.heap.size + 1 := by simp
  revert hz8 two hA hB hs8
  generalize World.alloc w7 _ = w8
  intro hz8 two hA hB hs8
  have hs8 := Lib.hid hs8
  have hA := Lib.hid hA
  have hB := Lib.hid hB
  have hz8 := Lib.hid hz8
  have nf0 := keepCell hz8.out f0
  have ng0 := keepCell hz8.out g0
  have ng1 := keepCell hz8.out g1
  have ng2 := keepCell hz8.out g2
  have ng3 := keepCell hz8.out g3
  have ngf0 := (hz8.out.frozen (p := ⟨w.heap.size + 1, 0, none⟩) lt2.out).trans gf0
  have ngf1 := (hz8.out.frozen (p := ⟨w.heap.size + 1, 1, none⟩) lt2.out).trans gf1
  have ngf2 := (hz8.out.frozen (p := ⟨w.heap.size + 1, 2, none⟩) lt2.out).trans gf2
  have ngf3 := (hz8.out.frozen (p := ⟨w.heap.size + 1, 3, none⟩) lt2.out).trans gf3
  clear f0 f3 g0 g1 g2 g3 gf0 gf1 gf2 gf3 hb6 hb7 hT6 hT7 hz6 hz7 sz5 hS hS5 f05 U0 U1 J0 J1
  cases s with
  | true =>
    go_wp2_with (go_at_call 41; refine (reverse_any w7.heap.size _ _ _ _ _ _ _ _ _ _ _ _ _ two).mono ?_; rintro e w9 ⟨rfl, hb9, hs9, two9⟩; have hz9 : Below w2.heap.size w2 w9 := hz8.out.trans (hb9.mono sz7); have mf0 := hb9.cell (p := ⟨w.heap.size, 0, none⟩) (by show w.heap.size < w7.heap.size; have := lt2.out; omega) |>.trans nf0; have mg0 := hb9.cell (p := ⟨w.heap.size + 1, 0, none⟩) (by show w.heap.size + 1 < w7.heap.size; have := lt2.out; omega) |>.trans ng0; have mg1 := hb9.cell (p := ⟨w.heap.size + 1, 1, none⟩) (by show w.heap.size + 1 < w7.heap.size; have := lt2.out; omega) |>.trans ng1; have mg2 := hb9.cell (p := ⟨w.heap.size + 1, 2, none⟩) (by show w.heap.size + 1 < w7.heap.size; have := lt2.out; omega) |>.trans ng2; have mg3 := hb9.cell (p := ⟨w.heap.size + 1, 3, none⟩) (by show w.heap.size + 1 < w7.heap.size; have := lt2.out; omega) |>.trans ng3; have mgf0 := hb9.frozen (p := ⟨w.heap.size + 1, 0, none⟩) (by show w.heap.size + 1 < w7.heap.size; have := lt2.out; omega) |>.trans ngf0; have mgf1 := hb9.frozen (p := ⟨w.heap.size + 1, 1, none⟩) (by show w.heap.size + 1 < w7.heap.size; have := lt2.out; omega) |>.trans ngf1; have mgf2 := hb9.frozen (p := ⟨w.heap.size + 1, 2, none⟩) (by show w.heap.size + 1 < w7.heap.size; have := lt2.out; omega) |>.trans ngf2; have mgf3 := hb9.frozen (p := ⟨w.heap.size + 1, 3, none⟩) (by show w.heap.size + 1 < w7.heap.size; have := lt2.out; omega) |>.trans ngf3; have hs9 := Lib.hid hs9; have hb9 := Lib.hid hb9)
    try simp only [Exit.inBlock, Exit.then]
    have hres : Try.f34.results = #[.cell 8 25] := rfl
    refine bodyPost_ret (v := .agg #[.int .i64 2, .int .i64 (W - a), .int .i64 0, .slice (some ⟨w7.heap.size, 0, none⟩) 2 2]) (by simp only [results, hres]; go_simp) rfl ?_
    have hzz : Below w.heap.size w w9 := bthen hb2.out hz9
    have q2 := lt2.out
    have q8 := hs8.out
    have q7 := hz9.size
    have q9 := hs9.out
    have twoF := two9
    have hAF := hA.out.under hb9.out (Nat.le_refl _)
    have hBF := hB.out.under hb9.out (Nat.le_refl _)
    refine ⟨by go_grown, 2, (W - a), 0, [.mk k7 a7 i7 l7, .mk k6 a6 i6 l6], some ⟨w7.heap.size, 0, none⟩, 2, rfl, rfl, TreeB.mk2 2 _ 0 2 (Two.keep twoF (by repeat rw [Below.heap_setCell _ _ _ _ (by show w7.heap.size ≠ w.heap.size + 1; omega)])) ?_ ?_ ?_ (by omega)⟩
    · simp only [World.size_setCell]; omega
    · refine TreeB.mono ((((hBF.setCell (.inl ?_) _).setCell (.inl ?_) _).setCell (.inl ?_) _).setCell (.inl ?_) _) (by omega) (by simp only [World.size_setCell]; omega)
      all_goals (show w.heap.size + 1 < w2.heap.size; omega)
    · refine TreeB.mono ((((hAF.setCell (.inl ?_) _).setCell (.inl ?_) _).setCell (.inl ?_) _).setCell (.inl ?_) _) (by omega) (by simp only [World.size_setCell]; omega)
      all_goals (show w.heap.size + 1 < w2.heap.size; omega)
  | false =>
    go_wp2
    try simp only [Exit.inBlock, Exit.then]
    have hres : Try.f34.results = #[.cell 8 25] := rfl
    refine bodyPost_ret (v := .agg #[.int .i64 2, .int .i64 a, .int .i64 0, .slice (some ⟨w7.heap.size, 0, none⟩) 2 2]) (by simp only [results, hres]; go_simp) rfl ?_
    have hzz : Below w.heap.size w w8 := bthen hb2.out hz8.out
    have q2 := lt2.out
    have q8 := hs8.out
    have q7 := hz8.out.size
    have twoF := two
    have hAF := hA.out
    have hBF := hB.out
    refine ⟨by go_grown, 2, a, 0, [.mk k6 a6 i6 l6, .mk k7 a7 i7 l7], some ⟨w7.heap.size, 0, none⟩, 2, rfl, rfl, TreeB.mk2 2 _ 0 2 (Two.keep twoF (by repeat rw [Below.heap_setCell _ _ _ _ (by show w7.heap.size ≠ w.heap.size + 1; omega)])) ?_ ?_ ?_ (by omega)⟩
    · simp only [World.size_setCell]; omega
    · refine TreeB.mono ((((hAF.setCell (.inl ?_) _).setCell (.inl ?_) _).setCell (.inl ?_) _).setCell (.inl ?_) _) (by omega) (by simp only [World.size_setCell]; omega)
      all_goals (show w.heap.size + 1 < w2.heap.size; omega)
    · refine TreeB.mono ((((hBF.setCell (.inl ?_) _).setCell (.inl ?_) _).setCell (.inl ?_) _).setCell (.inl ?_) _) (by omega) (by simp only [World.size_setCell]; omega)
      all_goals (show w.heap.size + 1 < w2.heap.size; omega)
set_option maxRecDepth 100000 in
set_option maxHeartbeats 8000000 in
theorem mirror_ends (s : Bool) (a k0 a0 i0 k1 a1 i1 : Int) (n0 n1 : Nat) (tb toff ca p0 p1 : Nat) (o0 o1 : Option Addr) (W H : Int) (T0 T1 : Tree) (w : World) (hW : -3280 ≤ W ∧ W ≤ 40 ∧ -3280 ≤ H ∧ H ≤ 40) (ha : 1 ≤ a ∧ a ≤ 39)
    (c0 : w.cell? ⟨tb, toff, none⟩ = some (.int .i64 k0))
    (c1 : w.cell? ⟨tb, toff + 1, none⟩ = some (.int .i64 a0))
    (c2 : w.cell? ⟨tb, toff + 2, none⟩ = some (.int .i64 i0))
    (c3 : w.cell? ⟨tb, toff + 3, none⟩ = some (.slice o0 n0 p0))
    (c4 : w.cell? ⟨tb, toff + 4, none⟩ = some (.int .i64 k1))
    (c5 : w.cell? ⟨tb, toff + 4 + 1, none⟩ = some (.int .i64 a1))
    (c6 : w.cell? ⟨tb, toff + 4 + 2, none⟩ = some (.int .i64 i1))
    (c7 : w.cell? ⟨tb, toff + 4 + 3, none⟩ = some (.slice o1 n1 p1))
    (ih0 : ∀ w', Below w.heap.size w w' → Calls Try.prog 34 #[.int .i64 W, .int .i64 a, .agg #[.int .i64 k0, .int .i64 a0, .int .i64 i0, .slice o0 n0 p0], .bool s] w' (RetTree T0 w'))
    (ih1 : ∀ w', Below w.heap.size w w' → Calls Try.prog 34 #[.int .i64 W, .int .i64 (H - a), .agg #[.int .i64 k1, .int .i64 a1, .int .i64 i1, .slice o1 n1 p1], .bool s] w' (RetTree T1 w'))
    : Calls Try.prog 34 #[.int .i64 W, .int .i64 H, .agg #[.int .i64 3, .int .i64 a, .int .i64 0, .slice (some ⟨tb, toff, none⟩) 2 ca], .bool s] w (RetTree (pick2 s (.mk 3 a 0 [T0, T1]) (.mk 3 (H - a) 0 [T1, T0])) w) := by
  have I0 := Lib.hid ih0
  have I1 := Lib.hid ih1
  clear ih0 ih1
  go_enter Try.func34, Try.ntmps34
  go_wp2
  go_quiet (fail)
  go_wp2
  have hb2 : Below w.heap.size w (((w.alloc (.cells #[.int .i64 3, .int .i64 a, .int .i64 0, .slice (some ⟨tb, toff, none⟩) 2 ca] 25)).alloc (.cells #[.int .i64 0, .int .i64 0, .int .i64 0, .slice none 0 0] 25)).drewN nq) := bdrewN (balloc (balloc (Below.refl _ w) _) _) nq
  have f0 : (((w.alloc (.cells #[.int .i64 3, .int .i64 a, .int .i64 0, .slice (some ⟨tb, toff, none⟩) 2 ca] 25)).alloc (.cells #[.int .i64 0, .int .i64 0, .int .i64 0, .slice none 0 0] 25)).drewN nq).cell? ⟨w.heap.size, 0, none⟩ = some (.int .i64 3) := by go_simp
  have f3 : (((w.alloc (.cells #[.int .i64 3, .int .i64 a, .int .i64 0, .slice (some ⟨tb, toff, none⟩) 2 ca] 25)).alloc (.cells #[.int .i64 0, .int .i64 0, .int .i64 0, .slice none 0 0] 25)).drewN nq).cell? ⟨w.heap.size, 3, none⟩ = some (.slice (some ⟨tb, toff, none⟩) 2 ca) := by go_simp
  have g0 : (((w.alloc (.cells #[.int .i64 3, .int .i64 a, .int .i64 0, .slice (some ⟨tb, toff, none⟩) 2 ca] 25)).alloc (.cells #[.int .i64 0, .int .i64 0, .int .i64 0, .slice none 0 0] 25)).drewN nq).cell? ⟨w.heap.size + 1, 0, none⟩ = some (.int .i64 0) := by go_simp
  have gf0 : (((w.alloc (.cells #[.int .i64 3, .int .i64 a, .int .i64 0, .slice (some ⟨tb, toff, none⟩) 2 ca] 25)).alloc (.cells #[.int .i64 0, .int .i64 0, .int .i64 0, .slice none 0 0] 25)).drewN nq).frozen? ⟨w.heap.size + 1, 0, none⟩ = false := by go_simp
  have g1 : (((w.alloc (.cells #[.int .i64 3, .int .i64 a, .int .i64 0, .slice (some ⟨tb, toff, none⟩) 2 ca] 25)).alloc (.cells #[.int .i64 0, .int .i64 0, .int .i64 0, .slice none 0 0] 25)).drewN nq).cell? ⟨w.heap.size + 1, 1, none⟩ = some (.int .i64 0) := by go_simp
  have gf1 : (((w.alloc (.cells #[.int .i64 3, .int .i64 a, .int .i64 0, .slice (some ⟨tb, toff, none⟩) 2 ca] 25)).alloc (.cells #[.int .i64 0, .int .i64 0, .int .i64 0, .slice none 0 0] 25)).drewN nq).frozen? ⟨w.heap.size + 1, 1, none⟩ = false := by go_simp
  have g2 : (((w.alloc (.cells #[.int .i64 3, .int .i64 a, .int .i64 0, .slice (some ⟨tb, toff, none⟩) 2 ca] 25)).alloc (.cells #[.int .i64 0, .int .i64 0, .int .i64 0, .slice none 0 0] 25)).drewN nq).cell? ⟨w.heap.size + 1, 2, none⟩ = some (.int .i64 0) := by go_simp
  have gf2 : (((w.alloc (.cells #[.int .i64 3, .int .i64 a, .int .i64 0, .slice (some ⟨tb, toff, none⟩) 2 ca] 25)).alloc (.cells #[.int .i64 0, .int .i64 0, .int .i64 0, .slice none 0 0] 25)).drewN nq).frozen? ⟨w.heap.size + 1, 2, none⟩ = false := by go_simp
  have g3 : (((w.alloc (.cells #[.int .i64 3, .int .i64 a, .int .i64 0, .slice (some ⟨tb, toff, none⟩) 2 ca] 25)).alloc (.cells #[.int .i64 0, .int .i64 0, .int .i64 0, .slice none 0 0] 25)).drewN nq).cell? ⟨w.heap.size + 1, 3, none⟩ = some (.slice none 0 0) := by go_simp
  have gf3 : (((w.alloc (.cells #[.int .i64 3, .int .i64 a, .int .i64 0, .slice (some ⟨tb, toff, none⟩) 2 ca] 25)).alloc (.cells #[.int .i64 0, .int .i64 0, .int .i64 0, .slice none 0 0] 25)).drewN nq).frozen? ⟨w.heap.size + 1, 3, none⟩ = false := by go_simp
  have lt2 : w.heap.size + 1 < (((w.alloc (.cells #[.int .i64 3, .int .i64 a, .int .i64 0, .slice (some ⟨tb, toff, none⟩) 2 ca] 25)).alloc (.cells #[.int .i64 0, .int .i64 0, .int .i64 0, .slice none 0 0] 25)).drewN nq).heap.size := by simp [World.drewN]
  revert hb2 f0 f3 g0 gf0 g1 gf1 g2 gf2 g3 gf3 lt2
  generalize World.drewN _ nq = w2
  intro hb2 f0 f3 g0 gf0 g1 gf1 g2 gf2 g3 gf3 lt2
  have hS : Hid (∀ w', Below w2.heap.size w2 w' → (Below w2.heap.size w2 w' ∧ w'.cell? ⟨w.heap.size, 3, none⟩ = some (.slice (some ⟨tb, toff, none⟩) 2 ca) ∧ w'.cell? ⟨tb, toff, none⟩ = some (.int .i64 k0) ∧ w'.cell? ⟨tb, toff + 1, none⟩ = some (.int .i64 a0) ∧ w'.cell? ⟨tb, toff + 2, none⟩ = some (.int .i64 i0) ∧ w'.cell? ⟨tb, toff + 3, none⟩ = some (.slice o0 n0 p0) ∧ w'.cell? ⟨tb, toff + 4, none⟩ = some (.int .i64 k1) ∧ w'.cell? ⟨tb, toff + 4 + 1, none⟩ = some (.int .i64 a1) ∧ w'.cell? ⟨tb, toff + 4 + 2, none⟩ = some (.int .i64 i1) ∧ w'.cell? ⟨tb, toff + 4 + 3, none⟩ = some (.slice o1 n1 p1))) := fun w' hb =>
    ⟨hb, keepCell hb f3, keepCell hb (keepCell hb2 c0), keepCell hb (keepCell hb2 c1), keepCell hb (keepCell hb2 c2), keepCell hb (keepCell hb2 c3), keepCell hb (keepCell hb2 c4), keepCell hb (keepCell hb2 c5), keepCell hb (keepCell hb2 c6), keepCell hb (keepCell hb2 c7)⟩
  have J0 : Hid (∀ w', Below w2.heap.size w2 w' → Calls Try.prog 34 #[.int .i64 W, .int .i64 a, .agg #[.int .i64 k0, .int .i64 a0, .int .i64 i0, .slice o0 n0 p0], .bool s] w' (RetTree T0 w')) := fun w' hb => I0.out w' (bthen hb2 hb)
  have J1 : Hid (∀ w', Below w2.heap.size w2 w' → Calls Try.prog 34 #[.int .i64 W, .int .i64 (H - a), .agg #[.int .i64 k1, .int .i64 a1, .int .i64 i1, .slice o1 n1 p1], .bool s] w' (RetTree T1 w')) := fun w' hb => I1.out w' (bthen hb2 hb)
  have hb2 := Lib.hid hb2
  have lt2 := Lib.hid lt2
  clear I0 I1 c0 c1 c2 c3 c4 c5 c6 c7
  go_region_held3 (fun w' => Below w2.heap.size w2 w' ∧ w'.cell? ⟨w.heap.size, 3, none⟩ = some (.slice (some ⟨tb, toff, none⟩) 2 ca) ∧ w'.cell? ⟨tb, toff, none⟩ = some (.int .i64 k0) ∧ w'.cell? ⟨tb, toff + 1, none⟩ = some (.int .i64 a0) ∧ w'.cell? ⟨tb, toff + 2, none⟩ = some (.int .i64 i0) ∧ w'.cell? ⟨tb, toff + 3, none⟩ = some (.slice o0 n0 p0) ∧ w'.cell? ⟨tb, toff + 4, none⟩ = some (.int .i64 k1) ∧ w'.cell? ⟨tb, toff + 4 + 1, none⟩ = some (.int .i64 a1) ∧ w'.cell? ⟨tb, toff + 4 + 2, none⟩ = some (.int .i64 i1) ∧ w'.cell? ⟨tb, toff + 4 + 3, none⟩ = some (.slice o1 n1 p1))
    ((refine hS.out _ ?_; go_grown))
    (first | fail | (go_simp; go_at_call 34; (with_reducible refine (J0.out _ (And.left (by assumption))).mono ?_); rintro e w6 ⟨hb6, k6, a6, i6, l6, o6, p6, rfl, rfl, hT6⟩; have hz6 : Below w2.heap.size w2 w6 := bthen (And.left (by assumption)) hb6; have sz6 := hz6.size) | (go_simp; go_at_call 34; (with_reducible refine (J1.out _ (And.left (by assumption))).mono ?_); rintro e w7 ⟨hb7, k7, a7, i7, l7, o7, p7, rfl, rfl, hT7⟩; have hz7 : Below w2.heap.size w2 w7 := bthen (And.left (by assumption)) hb7; have sz7 := hz7.size))
  have sz5 : w2.heap.size ≤ w2.heap.size := Nat.le_refl _
  have s67 : w6.heap.size ≤ w7.heap.size := hb7.size
  have hz8 : Below w2.heap.size w2 (w7.alloc (.cells #[.int .i64 k6, .int .i64 a6, .int .i64 i6, .slice o6 l6.length p6, .int .i64 k7, .int .i64 a7, .int .i64 i7, .slice o7 l7.length p7] 25)) := balloc hz7 _
  have two : Two (w7.alloc (.cells #[.int .i64 k6, .int .i64 a6, .int .i64 i6, .slice o6 l6.length p6, .int .i64 k7, .int .i64 a7, .int .i64 i7, .slice o7 l7.length p7] 25)) w7.heap.size k6 a6 i6 o6 l6.length p6 k7 a7 i7 o7 l7.length p7 := ⟨by go_simp, by go_simp, by go_simp, by go_simp, by go_simp, by go_simp, by go_simp, by go_simp, fun i => by go_simp⟩
  have hA : TreeB w2.heap.size w7.heap.size (w7.alloc (.cells #[.int .i64 k6, .int .i64 a6, .int .i64 i6, .slice o6 l6.length p6, .int .i64 k7, .int .i64 a7, .int .i64 i7, .slice o7 l7.length p7] 25)) (.mk k6 a6 i6 l6) [.int .i64 k6, .int .i64 a6, .int .i64 i6, .slice o6 l6.length p6] := ((hT6.under hb7 (Nat.le_refl _)).mono sz5 s67).alloc _
  have hB : TreeB w2.heap.size w7.heap.size (w7.alloc (.cells #[.int .i64 k6, .int .i64 a6, .int .i64 i6, .slice o6 l6.length p6, .int .i64 k7, .int .i64 a7, .int .i64 i7, .slice o7 l7.length p7] 25)) (.mk k7 a7 i7 l7) [.int .i64 k7, .int .i64 a7, .int .i64 i7, .slice o7 l7.length p7] := (hT7.mono sz6 (Nat.le_refl _)).alloc _
  have hs8 : (w7.alloc (.cells #[.int .i64 k6, .int .i64 a6, .int .i64 i6, .slice o6 l6.length p6, .int .i64 k7, .int .i64 a7, .int .i64 i7, .slice o7 l7.length p7] 25)).heap.size = w7.heap.size + 1 := by simp
  revert hz8 two hA hB hs8
  generalize World.alloc w7 _ = w8
  intro hz8 two hA hB hs8
  have hs8 := Lib.hid hs8
  have hA := Lib.hid hA
  have hB := Lib.hid hB
  have hz8 := Lib.hid hz8
  have nf0 := keepCell hz8.out f0
  have ng0 := keepCell hz8.out g0
  have ng1 := keepCell hz8.out g1
  have ng2 := keepCell hz8.out g2
  have ng3 := keepCell hz8.out g3
  have ngf0 := (hz8.out.frozen (p := ⟨w.heap.size + 1, 0, none⟩) lt2.out).trans gf0
  have ngf1 := (hz8.out.frozen (p := ⟨w.heap.size + 1, 1, none⟩) lt2.out).trans gf1
  have ngf2 := (hz8.out.frozen (p := ⟨w.heap.size + 1, 2, none⟩) lt2.out).trans gf2
  have ngf3 := (hz8.out.frozen (p := ⟨w.heap.size + 1, 3, none⟩) lt2.out).trans gf3
  clear f0 f3 g0 g1 g2 g3 gf0 gf1 gf2 gf3 hb6 hb7 hT6 hT7 hz6 hz7 sz5 hS J0 J1
  cases s with
  | true =>
    go_wp2
    try simp only [Exit.inBlock, Exit.then]
    have hres : Try.f34.results = #[.cell 8 25] := rfl
    refine bodyPost_ret (v := .agg #[.int .i64 3, .int .i64 a, .int .i64 0, .slice (some ⟨w7.heap.size, 0, none⟩) 2 2]) (by simp only [results, hres]; go_simp) rfl ?_
    have hzz : Below w.heap.size w w8 := bthen hb2.out hz8.out
    have q2 := lt2.out
    have q8 := hs8.out
    have q7 := hz8.out.size
    have twoF := two
    have hAF := hA.out
    have hBF := hB.out
    refine ⟨by go_grown, 3, a, 0, [.mk k6 a6 i6 l6, .mk k7 a7 i7 l7], some ⟨w7.heap.size, 0, none⟩, 2, rfl, rfl, TreeB.mk2 3 _ 0 2 (Two.keep twoF (by repeat rw [Below.heap_setCell _ _ _ _ (by show w7.heap.size ≠ w.heap.size + 1; omega)])) ?_ ?_ ?_ (by omega)⟩
    · simp only [World.size_setCell]; omega
    · refine TreeB.mono ((((hAF.setCell (.inl ?_) _).setCell (.inl ?_) _).setCell (.inl ?_) _).setCell (.inl ?_) _) (by omega) (by simp only [World.size_setCell]; omega)
      all_goals (show w.heap.size + 1 < w2.heap.size; omega)
    · refine TreeB.mono ((((hBF.setCell (.inl ?_) _).setCell (.inl ?_) _).setCell (.inl ?_) _).setCell (.inl ?_) _) (by omega) (by simp only [World.size_setCell]; omega)
      all_goals (show w.heap.size + 1 < w2.heap.size; omega)
  | false =>
    go_wp2_with (go_at_call 41; refine (reverse_any w7.heap.size _ _ _ _ _ _ _ _ _ _ _ _ _ two).mono ?_; rintro e w9 ⟨rfl, hb9, hs9, two9⟩; have hz9 : Below w2.heap.size w2 w9 := hz8.out.trans (hb9.mono sz7); have mf0 := hb9.cell (p := ⟨w.heap.size, 0, none⟩) (by show w.heap.size < w7.heap.size; have := lt2.out; omega) |>.trans nf0; have mg0 := hb9.cell (p := ⟨w.heap.size + 1, 0, none⟩) (by show w.heap.size + 1 < w7.heap.size; have := lt2.out; omega) |>.trans ng0; have mg1 := hb9.cell (p := ⟨w.heap.size + 1, 1, none⟩) (by show w.heap.size + 1 < w7.heap.size; have := lt2.out; omega) |>.trans ng1; have mg2 := hb9.cell (p := ⟨w.heap.size + 1, 2, none⟩) (by show w.heap.size + 1 < w7.heap.size; have := lt2.out; omega) |>.trans ng2; have mg3 := hb9.cell (p := ⟨w.heap.size + 1, 3, none⟩) (by show w.heap.size + 1 < w7.heap.size; have := lt2.out; omega) |>.trans ng3; have mgf0 := hb9.frozen (p := ⟨w.heap.size + 1, 0, none⟩) (by show w.heap.size + 1 < w7.heap.size; have := lt2.out; omega) |>.trans ngf0; have mgf1 := hb9.frozen (p := ⟨w.heap.size + 1, 1, none⟩) (by show w.heap.size + 1 < w7.heap.size; have := lt2.out; omega) |>.trans ngf1; have mgf2 := hb9.frozen (p := ⟨w.heap.size + 1, 2, none⟩) (by show w.heap.size + 1 < w7.heap.size; have := lt2.out; omega) |>.trans ngf2; have mgf3 := hb9.frozen (p := ⟨w.heap.size + 1, 3, none⟩) (by show w.heap.size + 1 < w7.heap.size; have := lt2.out; omega) |>.trans ngf3; have hs9 := Lib.hid hs9; have hb9 := Lib.hid hb9)
    try simp only [Exit.inBlock, Exit.then]
    have hres : Try.f34.results = #[.cell 8 25] := rfl
    refine bodyPost_ret (v := .agg #[.int .i64 3, .int .i64 (H - a), .int .i64 0, .slice (some ⟨w7.heap.size, 0, none⟩) 2 2]) (by simp only [results, hres]; go_simp) rfl ?_
    have hzz : Below w.heap.size w w9 := bthen hb2.out hz9
    have q2 := lt2.out
    have q8 := hs8.out
    have q7 := hz9.size
    have q9 := hs9.out
    have twoF := two9
    have hAF := hA.out.under hb9.out (Nat.le_refl _)
    have hBF := hB.out.under hb9.out (Nat.le_refl _)
    refine ⟨by go_grown, 3, (H - a), 0, [.mk k7 a7 i7 l7, .mk k6 a6 i6 l6], some ⟨w7.heap.size, 0, none⟩, 2, rfl, rfl, TreeB.mk2 3 _ 0 2 (Two.keep twoF (by repeat rw [Below.heap_setCell _ _ _ _ (by show w7.heap.size ≠ w.heap.size + 1; omega)])) ?_ ?_ ?_ (by omega)⟩
    · simp only [World.size_setCell]; omega
    · refine TreeB.mono ((((hBF.setCell (.inl ?_) _).setCell (.inl ?_) _).setCell (.inl ?_) _).setCell (.inl ?_) _) (by omega) (by simp only [World.size_setCell]; omega)
      all_goals (show w.heap.size + 1 < w2.heap.size; omega)
    · refine TreeB.mono ((((hAF.setCell (.inl ?_) _).setCell (.inl ?_) _).setCell (.inl ?_) _).setCell (.inl ?_) _) (by omega) (by simp only [World.size_setCell]; omega)
      all_goals (show w.heap.size + 1 < w2.heap.size; omega)
end Go.Proofs.Ythalimgejohffaa
