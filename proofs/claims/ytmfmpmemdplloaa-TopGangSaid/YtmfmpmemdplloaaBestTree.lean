/-
  cut.table's tree: its walk. Own text.
-/
import Derived.Test.YtmfmpmemdplloaaFill
namespace Go.Proofs.Ytmfmpmemdplloaa
open Go.RowKit
set_option linter.unusedVariables false
set_option maxRecDepth 100000 in
set_option maxHeartbeats 4000000 in
theorem tree_leaf (H x y g n cap : Nat) (F : Nat → Choice) (w : World) (hT : Tab w g n F) (hH : H ≤ 40) (hx : x ≤ 40) (hy : y ≤ H) (hn : n ≤ 1681) (hi : x * (H + 1) + y < n)
    (k a i v : Int) (hk2 : (k == 2) = false) (hk3 : (k == 3) = false) (hc : F (x * (H + 1) + y) = ⟨v, k, a, i⟩) (hki : -9223372036854775808 ≤ k ∧ k ≤ 9223372036854775807 ∧ -9223372036854775808 ≤ a ∧ a ≤ 9223372036854775807 ∧ -9223372036854775808 ≤ i ∧ i ≤ 9223372036854775807) :
    Calls Try.prog 12 #[.agg #[.int .i64 H, .slice (some ⟨g, 0, none⟩) n cap], .int .i64 x, .int .i64 y] w (RetTree (.mk k a i []) w) := by
  have hglt : g < w.heap.size := (hT.at' _ hi).lt
  have hb0 : Hid (Below w.heap.size w ((w.alloc (.cells #[.int .i64 H, .slice (some ⟨g, 0, none⟩) n cap] 49)).alloc (.cells #[.int .i64 0, .int .i64 0, .int .i64 0, .slice none 0 0] 27))) := balloc (balloc (Below.refl _ w) _) _
  have hT0 := Lib.hid (hT.below hb0.out hglt)
  have HT := Lib.hid hT
  clear hT
  go_enter Try.func12, Try.ntmps12
  go_wp2_with fail
  refine (of_any H x y _ _ rfl rfl g n cap F _ hT0.out hH (by omega) (by omega) hn hi).mono ?_
  rw [hc]
  rintro e w1 ⟨rfl, hb1⟩
  have hz1 := Lib.hid (bthen hb0.out hb1)
  have e0 : ((w.alloc (.cells #[.int .i64 H, .slice (some ⟨g, 0, none⟩) n cap] 49)).alloc (.cells #[.int .i64 0, .int .i64 0, .int .i64 0, .slice none 0 0] 27)).cell? ⟨w.heap.size + 1, 0, none⟩ = some (.int .i64 0) := by go_simp
  have e1 : ((w.alloc (.cells #[.int .i64 H, .slice (some ⟨g, 0, none⟩) n cap] 49)).alloc (.cells #[.int .i64 0, .int .i64 0, .int .i64 0, .slice none 0 0] 27)).cell? ⟨w.heap.size + 1, 1, none⟩ = some (.int .i64 0) := by go_simp
  have e2 : ((w.alloc (.cells #[.int .i64 H, .slice (some ⟨g, 0, none⟩) n cap] 49)).alloc (.cells #[.int .i64 0, .int .i64 0, .int .i64 0, .slice none 0 0] 27)).cell? ⟨w.heap.size + 1, 2, none⟩ = some (.int .i64 0) := by go_simp
  have e3 : ((w.alloc (.cells #[.int .i64 H, .slice (some ⟨g, 0, none⟩) n cap] 49)).alloc (.cells #[.int .i64 0, .int .i64 0, .int .i64 0, .slice none 0 0] 27)).cell? ⟨w.heap.size + 1, 3, none⟩ = some (.slice none 0 0) := by go_simp
  have ef : ∀ j, ((w.alloc (.cells #[.int .i64 H, .slice (some ⟨g, 0, none⟩) n cap] 49)).alloc (.cells #[.int .i64 0, .int .i64 0, .int .i64 0, .slice none 0 0] 27)).frozen? ⟨w.heap.size + 1, j, none⟩ = false := fun j => by go_simp
  have el : w.heap.size + 1 < ((w.alloc (.cells #[.int .i64 H, .slice (some ⟨g, 0, none⟩) n cap] 49)).alloc (.cells #[.int .i64 0, .int .i64 0, .int .i64 0, .slice none 0 0] 27)).heap.size := by simp
  have m0 := keepCell hb1 e0; have m1 := keepCell hb1 e1; have m2 := keepCell hb1 e2; have m3 := keepCell hb1 e3
  have mf : ∀ j, w1.frozen? ⟨w.heap.size + 1, j, none⟩ = false := fun j => (hb1.frozen (p := ⟨w.heap.size + 1, j, none⟩) el).trans (ef j)
  have mf0 := mf 0; have mf1 := mf 1; have mf2 := mf 2; have mf3 := mf 3
  have l1 : w.heap.size + 1 < w1.heap.size := Nat.lt_of_lt_of_le el hb1.size
  clear e0 e1 e2 e3 ef el mf hb1 hb0
  have q1 : w.heap.size + 1 ≠ w1.heap.size := by omega
  have q2 : w.heap.size + 1 ≠ w1.heap.size + 1 := by omega
  have q3 : w.heap.size ≠ w1.heap.size := by omega
  have q4 : w.heap.size + 1 < w1.heap.size + 1 := by omega
  simp only
  go_wp2
  try simp only [Exit.inBlock, Exit.then]
  have hres : Try.f12.results = #[.cell 6 27] := rfl
  refine bodyPost_ret (v := .agg #[.int .i64 k, .int .i64 a, .int .i64 i, .slice none 0 0]) (by simp only [results, hres]; go_simp) rfl ?_
  have hzz := hz1.out
  exact ⟨by go_grown, k, a, i, [], none, 0, rfl, rfl, TreeB.leaf _ _ _ k a i 0 hki⟩
set_option maxRecDepth 100000 in
set_option maxHeartbeats 4000000 in
theorem tree_sides (H x y g n cap : Nat) (F : Nat → Choice) (w : World) (hT : Tab w g n F) (hH : H ≤ 40) (hx : x ≤ 40) (hy : y ≤ H) (hn : n ≤ 1681) (hi : x * (H + 1) + y < n)
    (m : Nat) (v : Int) (h1 : 1 ≤ m) (h2 : m < x) (hc : F (x * (H + 1) + y) = ⟨v, 2, m, 0⟩) (T0 T1 : Tree)
    (ih0 : ∀ w', Below w.heap.size w w' → Calls Try.prog 12 #[.agg #[.int .i64 H, .slice (some ⟨g, 0, none⟩) n cap], .int .i64 m, .int .i64 y] w' (RetTree T0 w'))
    (ih1 : ∀ w', Below w.heap.size w w' → Calls Try.prog 12 #[.agg #[.int .i64 H, .slice (some ⟨g, 0, none⟩) n cap], .int .i64 ((x : Int) - (m : Int)), .int .i64 y] w' (RetTree T1 w')) :
    Calls Try.prog 12 #[.agg #[.int .i64 H, .slice (some ⟨g, 0, none⟩) n cap], .int .i64 x, .int .i64 y] w (RetTree (.mk 2 m 0 [T0, T1]) w) := by
  have I0 := Lib.hid ih0
  have I1 := Lib.hid ih1
  clear ih0 ih1
  have gd : IntKind.i64.wrap ((x : Int) - (m : Int)) = (x : Int) - (m : Int) := IntWalk.i64_in _ (by omega)
  have hglt : g < w.heap.size := (hT.at' _ hi).lt
  have hb0 : Hid (Below w.heap.size w ((w.alloc (.cells #[.int .i64 H, .slice (some ⟨g, 0, none⟩) n cap] 49)).alloc (.cells #[.int .i64 0, .int .i64 0, .int .i64 0, .slice none 0 0] 27))) := balloc (balloc (Below.refl _ w) _) _
  have hT0 := Lib.hid (hT.below hb0.out hglt)
  have HT := Lib.hid hT
  clear hT
  go_enter Try.func12, Try.ntmps12
  go_wp2_with fail
  refine (of_any H x y _ _ rfl rfl g n cap F _ hT0.out hH (by omega) (by omega) hn hi).mono ?_
  rw [hc]
  rintro e w1 ⟨rfl, hb1⟩
  have hz1 := Lib.hid (bthen hb0.out hb1)
  have e0 : ((w.alloc (.cells #[.int .i64 H, .slice (some ⟨g, 0, none⟩) n cap] 49)).alloc (.cells #[.int .i64 0, .int .i64 0, .int .i64 0, .slice none 0 0] 27)).cell? ⟨w.heap.size + 1, 0, none⟩ = some (.int .i64 0) := by go_simp
  have e1 : ((w.alloc (.cells #[.int .i64 H, .slice (some ⟨g, 0, none⟩) n cap] 49)).alloc (.cells #[.int .i64 0, .int .i64 0, .int .i64 0, .slice none 0 0] 27)).cell? ⟨w.heap.size + 1, 1, none⟩ = some (.int .i64 0) := by go_simp
  have e2 : ((w.alloc (.cells #[.int .i64 H, .slice (some ⟨g, 0, none⟩) n cap] 49)).alloc (.cells #[.int .i64 0, .int .i64 0, .int .i64 0, .slice none 0 0] 27)).cell? ⟨w.heap.size + 1, 2, none⟩ = some (.int .i64 0) := by go_simp
  have e3 : ((w.alloc (.cells #[.int .i64 H, .slice (some ⟨g, 0, none⟩) n cap] 49)).alloc (.cells #[.int .i64 0, .int .i64 0, .int .i64 0, .slice none 0 0] 27)).cell? ⟨w.heap.size + 1, 3, none⟩ = some (.slice none 0 0) := by go_simp
  have t0 : ((w.alloc (.cells #[.int .i64 H, .slice (some ⟨g, 0, none⟩) n cap] 49)).alloc (.cells #[.int .i64 0, .int .i64 0, .int .i64 0, .slice none 0 0] 27)).cell? ⟨w.heap.size, 0, none⟩ = some (.int .i64 H) := by go_simp
  have t1 : ((w.alloc (.cells #[.int .i64 H, .slice (some ⟨g, 0, none⟩) n cap] 49)).alloc (.cells #[.int .i64 0, .int .i64 0, .int .i64 0, .slice none 0 0] 27)).cell? ⟨w.heap.size, 1, none⟩ = some (.slice (some ⟨g, 0, none⟩) n cap) := by go_simp
  have ef : ∀ j, ((w.alloc (.cells #[.int .i64 H, .slice (some ⟨g, 0, none⟩) n cap] 49)).alloc (.cells #[.int .i64 0, .int .i64 0, .int .i64 0, .slice none 0 0] 27)).frozen? ⟨w.heap.size + 1, j, none⟩ = false := fun j => by go_simp
  have el : w.heap.size + 1 < ((w.alloc (.cells #[.int .i64 H, .slice (some ⟨g, 0, none⟩) n cap] 49)).alloc (.cells #[.int .i64 0, .int .i64 0, .int .i64 0, .slice none 0 0] 27)).heap.size := by simp
  have m0 := Lib.hid (keepCell hb1 e0); have m1 := Lib.hid (keepCell hb1 e1); have m2 := Lib.hid (keepCell hb1 e2); have m3 := Lib.hid (keepCell hb1 e3)
  have u0 := keepCell hb1 t0; have u1 := keepCell hb1 t1
  have mf : Hid (∀ j, w1.frozen? ⟨w.heap.size + 1, j, none⟩ = false) := fun j => (hb1.frozen (p := ⟨w.heap.size + 1, j, none⟩) el).trans (ef j)
  have l1 : w.heap.size + 1 < w1.heap.size := Nat.lt_of_lt_of_le el hb1.size
  clear e0 e1 e2 e3 ef el hb1 hb0 t0 t1
  have i1 : w.heap.size < w1.heap.size := by omega
  simp only
  go_wp2
  have hz2 : Below w1.heap.size w1 ((w1.alloc (.cells #[.int .i64 v, .int .i64 2, .int .i64 m, .int .i64 0] 51)).alloc (.cells #[.int .i64 2, .int .i64 m, .int .i64 0, .slice none 0 0] 27)) := balloc (balloc (Below.refl _ w1) _) _
  have a2 : ((w1.alloc (.cells #[.int .i64 v, .int .i64 2, .int .i64 m, .int .i64 0] 51)).alloc (.cells #[.int .i64 2, .int .i64 m, .int .i64 0, .slice none 0 0] 27)).cell? ⟨w1.heap.size, 2, none⟩ = some (.int .i64 m) := by go_simp
  have a0 : ((w1.alloc (.cells #[.int .i64 v, .int .i64 2, .int .i64 m, .int .i64 0] 51)).alloc (.cells #[.int .i64 2, .int .i64 m, .int .i64 0, .slice none 0 0] 27)).cell? ⟨w1.heap.size + 1, 0, none⟩ = some (.int .i64 2) := by go_simp
  have a1 : ((w1.alloc (.cells #[.int .i64 v, .int .i64 2, .int .i64 m, .int .i64 0] 51)).alloc (.cells #[.int .i64 2, .int .i64 m, .int .i64 0, .slice none 0 0] 27)).cell? ⟨w1.heap.size + 1, 1, none⟩ = some (.int .i64 m) := by go_simp
  have a2' : ((w1.alloc (.cells #[.int .i64 v, .int .i64 2, .int .i64 m, .int .i64 0] 51)).alloc (.cells #[.int .i64 2, .int .i64 m, .int .i64 0, .slice none 0 0] 27)).cell? ⟨w1.heap.size + 1, 2, none⟩ = some (.int .i64 0) := by go_simp
  have a3 : ((w1.alloc (.cells #[.int .i64 v, .int .i64 2, .int .i64 m, .int .i64 0] 51)).alloc (.cells #[.int .i64 2, .int .i64 m, .int .i64 0, .slice none 0 0] 27)).cell? ⟨w1.heap.size + 1, 3, none⟩ = some (.slice none 0 0) := by go_simp
  have af : ((w1.alloc (.cells #[.int .i64 v, .int .i64 2, .int .i64 m, .int .i64 0] 51)).alloc (.cells #[.int .i64 2, .int .i64 m, .int .i64 0, .slice none 0 0] 27)).frozen? ⟨w1.heap.size + 1, 3, none⟩ = false := by go_simp
  have al : w1.heap.size + 1 < ((w1.alloc (.cells #[.int .i64 v, .int .i64 2, .int .i64 m, .int .i64 0] 51)).alloc (.cells #[.int .i64 2, .int .i64 m, .int .i64 0, .slice none 0 0] 27)).heap.size := by simp
  revert hz2 a2 a0 a1 a2' a3 af al
  generalize World.alloc (World.alloc w1 _) _ = w2
  intro hz2 a2 a0 a1 a2' a3 af al
  have u0 := keepCell hz2 u0
  have u1 := keepCell hz2 u1
  have J0 : Hid (∀ w', Below (w1.heap.size + 1) w2 w' → Calls Try.prog 12 #[.agg #[.int .i64 H, .slice (some ⟨g, 0, none⟩) n cap], .int .i64 m, .int .i64 y] w' (RetTree T0 w')) := fun w' hb => I0.out w' ((bthen hz1.out hz2).trans (hb.mono (by omega)))
  have J1 : Hid (∀ w', Below (w1.heap.size + 1) w2 w' → Calls Try.prog 12 #[.agg #[.int .i64 H, .slice (some ⟨g, 0, none⟩) n cap], .int .i64 ((x : Int) - (m : Int)), .int .i64 y] w' (RetTree T1 w')) := fun w' hb => I1.out w' ((bthen hz1.out hz2).trans (hb.mono (by omega)))
  have hS : Hid (∀ w', Below (w1.heap.size + 1) w2 w' → (Below (w1.heap.size + 1) w2 w' ∧ w'.cell? ⟨w1.heap.size, 2, none⟩ = some (.int .i64 m) ∧ w'.cell? ⟨w.heap.size, 0, none⟩ = some (.int .i64 H) ∧ w'.cell? ⟨w.heap.size, 1, none⟩ = some (.slice (some ⟨g, 0, none⟩) n cap))) := fun w' hb => ⟨hb, (hb.cell (p := ⟨w1.heap.size, 2, none⟩) (Nat.lt_succ_self _)).trans a2, (hb.cell (p := ⟨w.heap.size, 0, none⟩) (by show w.heap.size < w1.heap.size + 1; omega)).trans u0, (hb.cell (p := ⟨w.heap.size, 1, none⟩) (by show w.heap.size < w1.heap.size + 1; omega)).trans u1⟩
  have A0 := Lib.hid a0; have A1 := Lib.hid a1; have A2 := Lib.hid a2'; have A3 := Lib.hid a3; have AF := Lib.hid af; have AL := Lib.hid al; have HZ2 := Lib.hid hz2
  clear a0 a1 a2' a3 af I0 I1 a2 u0 u1 hz2
  go_region_held3 (fun w' => Below (w1.heap.size + 1) w2 w' ∧ w'.cell? ⟨w1.heap.size, 2, none⟩ = some (.int .i64 m) ∧ w'.cell? ⟨w.heap.size, 0, none⟩ = some (.int .i64 H) ∧ w'.cell? ⟨w.heap.size, 1, none⟩ = some (.slice (some ⟨g, 0, none⟩) n cap))
    ((refine hS.out _ ?_; go_grown))
    (first | fail | (go_simp; go_at_call 12; (with_reducible refine (J0.out _ (And.left (by assumption))).mono ?_); rintro e w6 ⟨hb6, k6, a6, i6, l6, o6, p6, rfl, rfl, hT6⟩; have sz6 : w2.heap.size ≤ w6.heap.size := hb6.size; have hz6 : Below (w1.heap.size + 1) w2 w6 := Below.trans (And.left (by assumption)) (hb6.mono (by show w1.heap.size + 1 ≤ w2.heap.size; omega))) | (go_simp; go_at_call 12; (with_reducible refine (J1.out _ (And.left (by assumption))).mono ?_); rintro e w7 ⟨hb7, k7, a7, i7, l7, o7, p7, rfl, rfl, hT7⟩; have sz7 : w2.heap.size ≤ w7.heap.size := Nat.le_trans sz6 hb7.size; have hz7 : Below (w1.heap.size + 1) w2 w7 := Below.trans (And.left (by assumption)) (hb7.mono (by omega)); have x3 := keepCell hb7 (keepCell hb6 A3.out); have xf : w7.frozen? ⟨w1.heap.size + 1, 3, none⟩ = false := ((hb7.frozen (p := ⟨w1.heap.size + 1, 3, none⟩) (by show w1.heap.size + 1 < w6.heap.size; omega)).trans (hb6.frozen (p := ⟨w1.heap.size + 1, 3, none⟩) al)).trans AF.out; have xl : w1.heap.size + 1 < w7.heap.size := (by omega); have xn : w1.heap.size + 1 ≠ w7.heap.size := (by omega)))
  have hw6 : Below w2.heap.size w2 w6 := ⟨hb6.os, hb6.tape, hb6.output, hb6.size, hb6.block⟩
  have hw7 := bthen hw6 hb7
  have N0 := keepCell hw7 A0.out; have N1 := keepCell hw7 A1.out; have N2 := keepCell hw7 A2.out
  have hw8 : Below (w1.heap.size + 1) w2 ((w7.setCell ⟨w1.heap.size + 1, 3, none⟩ (.slice (some ⟨w7.heap.size, 0, none⟩) 2 2)).alloc (.cells #[.int .i64 k6, .int .i64 a6, .int .i64 i6, .slice o6 l6.length p6, .int .i64 k7, .int .i64 a7, .int .i64 i7, .slice o7 l7.length p7] 27)) := by go_grown
  have two : Two ((w7.setCell ⟨w1.heap.size + 1, 3, none⟩ (.slice (some ⟨w7.heap.size, 0, none⟩) 2 2)).alloc (.cells #[.int .i64 k6, .int .i64 a6, .int .i64 i6, .slice o6 l6.length p6, .int .i64 k7, .int .i64 a7, .int .i64 i7, .slice o7 l7.length p7] 27)) w7.heap.size k6 a6 i6 o6 l6.length p6 k7 a7 i7 o7 l7.length p7 := ⟨by go_simp, by go_simp, by go_simp, by go_simp, by go_simp, by go_simp, by go_simp, by go_simp, fun i => by go_simp⟩
  have hA : TreeB w2.heap.size w7.heap.size ((w7.setCell ⟨w1.heap.size + 1, 3, none⟩ (.slice (some ⟨w7.heap.size, 0, none⟩) 2 2)).alloc (.cells #[.int .i64 k6, .int .i64 a6, .int .i64 i6, .slice o6 l6.length p6, .int .i64 k7, .int .i64 a7, .int .i64 i7, .slice o7 l7.length p7] 27)) (.mk k6 a6 i6 l6) [.int .i64 k6, .int .i64 a6, .int .i64 i6, .slice o6 l6.length p6] := (((hT6.under hb7 (Nat.le_refl _)).mono (Nat.le_refl _) hb7.size).setCell (.inl al) _).alloc _
  have hB : TreeB w2.heap.size w7.heap.size ((w7.setCell ⟨w1.heap.size + 1, 3, none⟩ (.slice (some ⟨w7.heap.size, 0, none⟩) 2 2)).alloc (.cells #[.int .i64 k6, .int .i64 a6, .int .i64 i6, .slice o6 l6.length p6, .int .i64 k7, .int .i64 a7, .int .i64 i7, .slice o7 l7.length p7] 27)) (.mk k7 a7 i7 l7) [.int .i64 k7, .int .i64 a7, .int .i64 i7, .slice o7 l7.length p7] := ((hT7.mono sz6 (Nat.le_refl _)).setCell (.inl al) _).alloc _
  have hs8 : ((w7.setCell ⟨w1.heap.size + 1, 3, none⟩ (.slice (some ⟨w7.heap.size, 0, none⟩) 2 2)).alloc (.cells #[.int .i64 k6, .int .i64 a6, .int .i64 i6, .slice o6 l6.length p6, .int .i64 k7, .int .i64 a7, .int .i64 i7, .slice o7 l7.length p7] 27)).heap.size = w7.heap.size + 1 := by simp
  have n0 : ((w7.setCell ⟨w1.heap.size + 1, 3, none⟩ (.slice (some ⟨w7.heap.size, 0, none⟩) 2 2)).alloc (.cells #[.int .i64 k6, .int .i64 a6, .int .i64 i6, .slice o6 l6.length p6, .int .i64 k7, .int .i64 a7, .int .i64 i7, .slice o7 l7.length p7] 27)).cell? ⟨w1.heap.size + 1, 0, none⟩ = some (.int .i64 2) := by go_simp
  have n1 : ((w7.setCell ⟨w1.heap.size + 1, 3, none⟩ (.slice (some ⟨w7.heap.size, 0, none⟩) 2 2)).alloc (.cells #[.int .i64 k6, .int .i64 a6, .int .i64 i6, .slice o6 l6.length p6, .int .i64 k7, .int .i64 a7, .int .i64 i7, .slice o7 l7.length p7] 27)).cell? ⟨w1.heap.size + 1, 1, none⟩ = some (.int .i64 m) := by go_simp
  have n2 : ((w7.setCell ⟨w1.heap.size + 1, 3, none⟩ (.slice (some ⟨w7.heap.size, 0, none⟩) 2 2)).alloc (.cells #[.int .i64 k6, .int .i64 a6, .int .i64 i6, .slice o6 l6.length p6, .int .i64 k7, .int .i64 a7, .int .i64 i7, .slice o7 l7.length p7] 27)).cell? ⟨w1.heap.size + 1, 2, none⟩ = some (.int .i64 0) := by go_simp
  have n3 : ((w7.setCell ⟨w1.heap.size + 1, 3, none⟩ (.slice (some ⟨w7.heap.size, 0, none⟩) 2 2)).alloc (.cells #[.int .i64 k6, .int .i64 a6, .int .i64 i6, .slice o6 l6.length p6, .int .i64 k7, .int .i64 a7, .int .i64 i7, .slice o7 l7.length p7] 27)).cell? ⟨w1.heap.size + 1, 3, none⟩ = some (.slice (some ⟨w7.heap.size, 0, none⟩) 2 2) := by go_simp
  revert hw8 two hA hB hs8 n0 n1 n2 n3
  generalize World.alloc (World.setCell w7 _ _) _ = w8
  intro hw8 two hA hB hs8 n0 n1 n2 n3
  have hA := Lib.hid hA
  have hB := Lib.hid hB
  have TWO := Lib.hid two
  have HS8 := Lib.hid hs8
  have r0 := (hw8.cell (p := ⟨w.heap.size + 1, 0, none⟩) (by show w.heap.size + 1 < w1.heap.size + 1; omega)).trans (keepCell HZ2.out m0.out); have r1 := (hw8.cell (p := ⟨w.heap.size + 1, 1, none⟩) (by show w.heap.size + 1 < w1.heap.size + 1; omega)).trans (keepCell HZ2.out m1.out); have r2 := (hw8.cell (p := ⟨w.heap.size + 1, 2, none⟩) (by show w.heap.size + 1 < w1.heap.size + 1; omega)).trans (keepCell HZ2.out m2.out); have r3 := (hw8.cell (p := ⟨w.heap.size + 1, 3, none⟩) (by show w.heap.size + 1 < w1.heap.size + 1; omega)).trans (keepCell HZ2.out m3.out)
  have rf : ∀ j, w8.frozen? ⟨w.heap.size + 1, j, none⟩ = false := fun j => (hw8.frozen (p := ⟨w.heap.size + 1, j, none⟩) (by show w.heap.size + 1 < w1.heap.size + 1; omega)).trans ((HZ2.out.frozen (p := ⟨w.heap.size + 1, j, none⟩) l1).trans (mf.out j))
  have rf0 := rf 0; have rf1 := rf 1; have rf2 := rf 2; have rf3 := rf 3
  have hzz := Lib.hid ((bthen hz1.out HZ2.out).trans (hw8.mono (by omega)))
  have xa : w.heap.size + 1 ≠ w1.heap.size + 1 := by omega
  have xb : w1.heap.size + 1 ≠ w.heap.size + 1 := by omega
  have xc : w.heap.size ≠ w1.heap.size := by omega
  have xd : w1.heap.size ≠ w.heap.size := by omega
  clear rf two hs8 hb6 hb7 hT6 hT7 hz6 hz7 x3 xf xl xn hS J0 J1 hw6 hw7 hw8 A0 A1 A2 A3 AF N0 N1 N2
  go_wp2
  try simp only [Exit.inBlock, Exit.then]
  have hres : Try.f12.results = #[.cell 6 27] := rfl
  refine bodyPost_ret (v := .agg #[.int .i64 2, .int .i64 m, .int .i64 0, .slice (some ⟨w7.heap.size, 0, none⟩) 2 2]) (by simp only [results, hres]; go_simp) rfl ?_
  have hzF := hzz.out
  have hsF := HS8.out
  refine ⟨by go_grown, 2, m, 0, [.mk k6 a6 i6 l6, .mk k7 a7 i7 l7], some ⟨w7.heap.size, 0, none⟩, 2, rfl, rfl, TreeB.mk2 2 _ 0 2 (Two.keep TWO.out (by repeat rw [Below.heap_setCell _ _ _ _ (by first | (show w7.heap.size ≠ w.heap.size + 1; omega) | (show w7.heap.size ≠ w1.heap.size + 1; omega))])) ?_ ?_ ?_ (by omega)⟩
  · simp only [World.size_setCell]; omega
  · refine TreeB.mono ((((hA.out.setCell (.inl ?_) _).setCell (.inl ?_) _).setCell (.inl ?_) _).setCell (.inl ?_) _) (by omega) (by simp only [World.size_setCell]; omega)
    all_goals first | exact al | (show w.heap.size + 1 < w2.heap.size; omega)
  · refine TreeB.mono ((((hB.out.setCell (.inl ?_) _).setCell (.inl ?_) _).setCell (.inl ?_) _).setCell (.inl ?_) _) (by omega) (by simp only [World.size_setCell]; omega)
    all_goals first | exact al | (show w.heap.size + 1 < w2.heap.size; omega)
set_option maxRecDepth 100000 in
set_option maxHeartbeats 4000000 in
theorem tree_ends (H x y g n cap : Nat) (F : Nat → Choice) (w : World) (hT : Tab w g n F) (hH : H ≤ 40) (hx : x ≤ 40) (hy : y ≤ H) (hn : n ≤ 1681) (hi : x * (H + 1) + y < n)
    (m : Nat) (v : Int) (h1 : 1 ≤ m) (h2 : m < y) (hc : F (x * (H + 1) + y) = ⟨v, 3, m, 0⟩) (T0 T1 : Tree)
    (ih0 : ∀ w', Below w.heap.size w w' → Calls Try.prog 12 #[.agg #[.int .i64 H, .slice (some ⟨g, 0, none⟩) n cap], .int .i64 x, .int .i64 m] w' (RetTree T0 w'))
    (ih1 : ∀ w', Below w.heap.size w w' → Calls Try.prog 12 #[.agg #[.int .i64 H, .slice (some ⟨g, 0, none⟩) n cap], .int .i64 x, .int .i64 ((y : Int) - (m : Int))] w' (RetTree T1 w')) :
    Calls Try.prog 12 #[.agg #[.int .i64 H, .slice (some ⟨g, 0, none⟩) n cap], .int .i64 x, .int .i64 y] w (RetTree (.mk 3 m 0 [T0, T1]) w) := by
  have I0 := Lib.hid ih0
  have I1 := Lib.hid ih1
  clear ih0 ih1
  have gd : IntKind.i64.wrap ((y : Int) - (m : Int)) = (y : Int) - (m : Int) := IntWalk.i64_in _ (by omega)
  have hglt : g < w.heap.size := (hT.at' _ hi).lt
  have hb0 : Hid (Below w.heap.size w ((w.alloc (.cells #[.int .i64 H, .slice (some ⟨g, 0, none⟩) n cap] 49)).alloc (.cells #[.int .i64 0, .int .i64 0, .int .i64 0, .slice none 0 0] 27))) := balloc (balloc (Below.refl _ w) _) _
  have hT0 := Lib.hid (hT.below hb0.out hglt)
  have HT := Lib.hid hT
  clear hT
  go_enter Try.func12, Try.ntmps12
  go_wp2_with fail
  refine (of_any H x y _ _ rfl rfl g n cap F _ hT0.out hH (by omega) (by omega) hn hi).mono ?_
  rw [hc]
  rintro e w1 ⟨rfl, hb1⟩
  have hz1 := Lib.hid (bthen hb0.out hb1)
  have e0 : ((w.alloc (.cells #[.int .i64 H, .slice (some ⟨g, 0, none⟩) n cap] 49)).alloc (.cells #[.int .i64 0, .int .i64 0, .int .i64 0, .slice none 0 0] 27)).cell? ⟨w.heap.size + 1, 0, none⟩ = some (.int .i64 0) := by go_simp
  have e1 : ((w.alloc (.cells #[.int .i64 H, .slice (some ⟨g, 0, none⟩) n cap] 49)).alloc (.cells #[.int .i64 0, .int .i64 0, .int .i64 0, .slice none 0 0] 27)).cell? ⟨w.heap.size + 1, 1, none⟩ = some (.int .i64 0) := by go_simp
  have e2 : ((w.alloc (.cells #[.int .i64 H, .slice (some ⟨g, 0, none⟩) n cap] 49)).alloc (.cells #[.int .i64 0, .int .i64 0, .int .i64 0, .slice none 0 0] 27)).cell? ⟨w.heap.size + 1, 2, none⟩ = some (.int .i64 0) := by go_simp
  have e3 : ((w.alloc (.cells #[.int .i64 H, .slice (some ⟨g, 0, none⟩) n cap] 49)).alloc (.cells #[.int .i64 0, .int .i64 0, .int .i64 0, .slice none 0 0] 27)).cell? ⟨w.heap.size + 1, 3, none⟩ = some (.slice none 0 0) := by go_simp
  have t0 : ((w.alloc (.cells #[.int .i64 H, .slice (some ⟨g, 0, none⟩) n cap] 49)).alloc (.cells #[.int .i64 0, .int .i64 0, .int .i64 0, .slice none 0 0] 27)).cell? ⟨w.heap.size, 0, none⟩ = some (.int .i64 H) := by go_simp
  have t1 : ((w.alloc (.cells #[.int .i64 H, .slice (some ⟨g, 0, none⟩) n cap] 49)).alloc (.cells #[.int .i64 0, .int .i64 0, .int .i64 0, .slice none 0 0] 27)).cell? ⟨w.heap.size, 1, none⟩ = some (.slice (some ⟨g, 0, none⟩) n cap) := by go_simp
  have ef : ∀ j, ((w.alloc (.cells #[.int .i64 H, .slice (some ⟨g, 0, none⟩) n cap] 49)).alloc (.cells #[.int .i64 0, .int .i64 0, .int .i64 0, .slice none 0 0] 27)).frozen? ⟨w.heap.size + 1, j, none⟩ = false := fun j => by go_simp
  have el : w.heap.size + 1 < ((w.alloc (.cells #[.int .i64 H, .slice (some ⟨g, 0, none⟩) n cap] 49)).alloc (.cells #[.int .i64 0, .int .i64 0, .int .i64 0, .slice none 0 0] 27)).heap.size := by simp
  have m0 := Lib.hid (keepCell hb1 e0); have m1 := Lib.hid (keepCell hb1 e1); have m2 := Lib.hid (keepCell hb1 e2); have m3 := Lib.hid (keepCell hb1 e3)
  have u0 := keepCell hb1 t0; have u1 := keepCell hb1 t1
  have mf : Hid (∀ j, w1.frozen? ⟨w.heap.size + 1, j, none⟩ = false) := fun j => (hb1.frozen (p := ⟨w.heap.size + 1, j, none⟩) el).trans (ef j)
  have l1 : w.heap.size + 1 < w1.heap.size := Nat.lt_of_lt_of_le el hb1.size
  clear e0 e1 e2 e3 ef el hb1 hb0 t0 t1
  have i1 : w.heap.size < w1.heap.size := by omega
  simp only
  go_wp2
  have hz2 : Below w1.heap.size w1 ((w1.alloc (.cells #[.int .i64 v, .int .i64 3, .int .i64 m, .int .i64 0] 51)).alloc (.cells #[.int .i64 3, .int .i64 m, .int .i64 0, .slice none 0 0] 27)) := balloc (balloc (Below.refl _ w1) _) _
  have a2 : ((w1.alloc (.cells #[.int .i64 v, .int .i64 3, .int .i64 m, .int .i64 0] 51)).alloc (.cells #[.int .i64 3, .int .i64 m, .int .i64 0, .slice none 0 0] 27)).cell? ⟨w1.heap.size, 2, none⟩ = some (.int .i64 m) := by go_simp
  have a0 : ((w1.alloc (.cells #[.int .i64 v, .int .i64 3, .int .i64 m, .int .i64 0] 51)).alloc (.cells #[.int .i64 3, .int .i64 m, .int .i64 0, .slice none 0 0] 27)).cell? ⟨w1.heap.size + 1, 0, none⟩ = some (.int .i64 3) := by go_simp
  have a1 : ((w1.alloc (.cells #[.int .i64 v, .int .i64 3, .int .i64 m, .int .i64 0] 51)).alloc (.cells #[.int .i64 3, .int .i64 m, .int .i64 0, .slice none 0 0] 27)).cell? ⟨w1.heap.size + 1, 1, none⟩ = some (.int .i64 m) := by go_simp
  have a2' : ((w1.alloc (.cells #[.int .i64 v, .int .i64 3, .int .i64 m, .int .i64 0] 51)).alloc (.cells #[.int .i64 3, .int .i64 m, .int .i64 0, .slice none 0 0] 27)).cell? ⟨w1.heap.size + 1, 2, none⟩ = some (.int .i64 0) := by go_simp
  have a3 : ((w1.alloc (.cells #[.int .i64 v, .int .i64 3, .int .i64 m, .int .i64 0] 51)).alloc (.cells #[.int .i64 3, .int .i64 m, .int .i64 0, .slice none 0 0] 27)).cell? ⟨w1.heap.size + 1, 3, none⟩ = some (.slice none 0 0) := by go_simp
  have af : ((w1.alloc (.cells #[.int .i64 v, .int .i64 3, .int .i64 m, .int .i64 0] 51)).alloc (.cells #[.int .i64 3, .int .i64 m, .int .i64 0, .slice none 0 0] 27)).frozen? ⟨w1.heap.size + 1, 3, none⟩ = false := by go_simp
  have al : w1.heap.size + 1 < ((w1.alloc (.cells #[.int .i64 v, .int .i64 3, .int .i64 m, .int .i64 0] 51)).alloc (.cells #[.int .i64 3, .int .i64 m, .int .i64 0, .slice none 0 0] 27)).heap.size := by simp
  revert hz2 a2 a0 a1 a2' a3 af al
  generalize World.alloc (World.alloc w1 _) _ = w2
  intro hz2 a2 a0 a1 a2' a3 af al
  have u0 := keepCell hz2 u0
  have u1 := keepCell hz2 u1
  have J0 : Hid (∀ w', Below (w1.heap.size + 1) w2 w' → Calls Try.prog 12 #[.agg #[.int .i64 H, .slice (some ⟨g, 0, none⟩) n cap], .int .i64 x, .int .i64 m] w' (RetTree T0 w')) := fun w' hb => I0.out w' ((bthen hz1.out hz2).trans (hb.mono (by omega)))
  have J1 : Hid (∀ w', Below (w1.heap.size + 1) w2 w' → Calls Try.prog 12 #[.agg #[.int .i64 H, .slice (some ⟨g, 0, none⟩) n cap], .int .i64 x, .int .i64 ((y : Int) - (m : Int))] w' (RetTree T1 w')) := fun w' hb => I1.out w' ((bthen hz1.out hz2).trans (hb.mono (by omega)))
  have hS : Hid (∀ w', Below (w1.heap.size + 1) w2 w' → (Below (w1.heap.size + 1) w2 w' ∧ w'.cell? ⟨w1.heap.size, 2, none⟩ = some (.int .i64 m) ∧ w'.cell? ⟨w.heap.size, 0, none⟩ = some (.int .i64 H) ∧ w'.cell? ⟨w.heap.size, 1, none⟩ = some (.slice (some ⟨g, 0, none⟩) n cap))) := fun w' hb => ⟨hb, (hb.cell (p := ⟨w1.heap.size, 2, none⟩) (Nat.lt_succ_self _)).trans a2, (hb.cell (p := ⟨w.heap.size, 0, none⟩) (by show w.heap.size < w1.heap.size + 1; omega)).trans u0, (hb.cell (p := ⟨w.heap.size, 1, none⟩) (by show w.heap.size < w1.heap.size + 1; omega)).trans u1⟩
  have A0 := Lib.hid a0; have A1 := Lib.hid a1; have A2 := Lib.hid a2'; have A3 := Lib.hid a3; have AF := Lib.hid af; have AL := Lib.hid al; have HZ2 := Lib.hid hz2
  clear a0 a1 a2' a3 af I0 I1 a2 u0 u1 hz2
  go_region_held3 (fun w' => Below (w1.heap.size + 1) w2 w' ∧ w'.cell? ⟨w1.heap.size, 2, none⟩ = some (.int .i64 m) ∧ w'.cell? ⟨w.heap.size, 0, none⟩ = some (.int .i64 H) ∧ w'.cell? ⟨w.heap.size, 1, none⟩ = some (.slice (some ⟨g, 0, none⟩) n cap))
    ((refine hS.out _ ?_; go_grown))
    (first | fail | (go_simp; go_at_call 12; (with_reducible refine (J0.out _ (And.left (by assumption))).mono ?_); rintro e w6 ⟨hb6, k6, a6, i6, l6, o6, p6, rfl, rfl, hT6⟩; have sz6 : w2.heap.size ≤ w6.heap.size := hb6.size; have hz6 : Below (w1.heap.size + 1) w2 w6 := Below.trans (And.left (by assumption)) (hb6.mono (by show w1.heap.size + 1 ≤ w2.heap.size; omega))) | (go_simp; go_at_call 12; (with_reducible refine (J1.out _ (And.left (by assumption))).mono ?_); rintro e w7 ⟨hb7, k7, a7, i7, l7, o7, p7, rfl, rfl, hT7⟩; have sz7 : w2.heap.size ≤ w7.heap.size := Nat.le_trans sz6 hb7.size; have hz7 : Below (w1.heap.size + 1) w2 w7 := Below.trans (And.left (by assumption)) (hb7.mono (by omega)); have x3 := keepCell hb7 (keepCell hb6 A3.out); have xf : w7.frozen? ⟨w1.heap.size + 1, 3, none⟩ = false := ((hb7.frozen (p := ⟨w1.heap.size + 1, 3, none⟩) (by show w1.heap.size + 1 < w6.heap.size; omega)).trans (hb6.frozen (p := ⟨w1.heap.size + 1, 3, none⟩) al)).trans AF.out; have xl : w1.heap.size + 1 < w7.heap.size := (by omega); have xn : w1.heap.size + 1 ≠ w7.heap.size := (by omega)))
  have hw6 : Below w2.heap.size w2 w6 := ⟨hb6.os, hb6.tape, hb6.output, hb6.size, hb6.block⟩
  have hw7 := bthen hw6 hb7
  have N0 := keepCell hw7 A0.out; have N1 := keepCell hw7 A1.out; have N2 := keepCell hw7 A2.out
  have hw8 : Below (w1.heap.size + 1) w2 ((w7.setCell ⟨w1.heap.size + 1, 3, none⟩ (.slice (some ⟨w7.heap.size, 0, none⟩) 2 2)).alloc (.cells #[.int .i64 k6, .int .i64 a6, .int .i64 i6, .slice o6 l6.length p6, .int .i64 k7, .int .i64 a7, .int .i64 i7, .slice o7 l7.length p7] 27)) := by go_grown
  have two : Two ((w7.setCell ⟨w1.heap.size + 1, 3, none⟩ (.slice (some ⟨w7.heap.size, 0, none⟩) 2 2)).alloc (.cells #[.int .i64 k6, .int .i64 a6, .int .i64 i6, .slice o6 l6.length p6, .int .i64 k7, .int .i64 a7, .int .i64 i7, .slice o7 l7.length p7] 27)) w7.heap.size k6 a6 i6 o6 l6.length p6 k7 a7 i7 o7 l7.length p7 := ⟨by go_simp, by go_simp, by go_simp, by go_simp, by go_simp, by go_simp, by go_simp, by go_simp, fun i => by go_simp⟩
  have hA : TreeB w2.heap.size w7.heap.size ((w7.setCell ⟨w1.heap.size + 1, 3, none⟩ (.slice (some ⟨w7.heap.size, 0, none⟩) 2 2)).alloc (.cells #[.int .i64 k6, .int .i64 a6, .int .i64 i6, .slice o6 l6.length p6, .int .i64 k7, .int .i64 a7, .int .i64 i7, .slice o7 l7.length p7] 27)) (.mk k6 a6 i6 l6) [.int .i64 k6, .int .i64 a6, .int .i64 i6, .slice o6 l6.length p6] := (((hT6.under hb7 (Nat.le_refl _)).mono (Nat.le_refl _) hb7.size).setCell (.inl al) _).alloc _
  have hB : TreeB w2.heap.size w7.heap.size ((w7.setCell ⟨w1.heap.size + 1, 3, none⟩ (.slice (some ⟨w7.heap.size, 0, none⟩) 2 2)).alloc (.cells #[.int .i64 k6, .int .i64 a6, .int .i64 i6, .slice o6 l6.length p6, .int .i64 k7, .int .i64 a7, .int .i64 i7, .slice o7 l7.length p7] 27)) (.mk k7 a7 i7 l7) [.int .i64 k7, .int .i64 a7, .int .i64 i7, .slice o7 l7.length p7] := ((hT7.mono sz6 (Nat.le_refl _)).setCell (.inl al) _).alloc _
  have hs8 : ((w7.setCell ⟨w1.heap.size + 1, 3, none⟩ (.slice (some ⟨w7.heap.size, 0, none⟩) 2 2)).alloc (.cells #[.int .i64 k6, .int .i64 a6, .int .i64 i6, .slice o6 l6.length p6, .int .i64 k7, .int .i64 a7, .int .i64 i7, .slice o7 l7.length p7] 27)).heap.size = w7.heap.size + 1 := by simp
  have n0 : ((w7.setCell ⟨w1.heap.size + 1, 3, none⟩ (.slice (some ⟨w7.heap.size, 0, none⟩) 2 2)).alloc (.cells #[.int .i64 k6, .int .i64 a6, .int .i64 i6, .slice o6 l6.length p6, .int .i64 k7, .int .i64 a7, .int .i64 i7, .slice o7 l7.length p7] 27)).cell? ⟨w1.heap.size + 1, 0, none⟩ = some (.int .i64 3) := by go_simp
  have n1 : ((w7.setCell ⟨w1.heap.size + 1, 3, none⟩ (.slice (some ⟨w7.heap.size, 0, none⟩) 2 2)).alloc (.cells #[.int .i64 k6, .int .i64 a6, .int .i64 i6, .slice o6 l6.length p6, .int .i64 k7, .int .i64 a7, .int .i64 i7, .slice o7 l7.length p7] 27)).cell? ⟨w1.heap.size + 1, 1, none⟩ = some (.int .i64 m) := by go_simp
  have n2 : ((w7.setCell ⟨w1.heap.size + 1, 3, none⟩ (.slice (some ⟨w7.heap.size, 0, none⟩) 2 2)).alloc (.cells #[.int .i64 k6, .int .i64 a6, .int .i64 i6, .slice o6 l6.length p6, .int .i64 k7, .int .i64 a7, .int .i64 i7, .slice o7 l7.length p7] 27)).cell? ⟨w1.heap.size + 1, 2, none⟩ = some (.int .i64 0) := by go_simp
  have n3 : ((w7.setCell ⟨w1.heap.size + 1, 3, none⟩ (.slice (some ⟨w7.heap.size, 0, none⟩) 2 2)).alloc (.cells #[.int .i64 k6, .int .i64 a6, .int .i64 i6, .slice o6 l6.length p6, .int .i64 k7, .int .i64 a7, .int .i64 i7, .slice o7 l7.length p7] 27)).cell? ⟨w1.heap.size + 1, 3, none⟩ = some (.slice (some ⟨w7.heap.size, 0, none⟩) 2 2) := by go_simp
  revert hw8 two hA hB hs8 n0 n1 n2 n3
  generalize World.alloc (World.setCell w7 _ _) _ = w8
  intro hw8 two hA hB hs8 n0 n1 n2 n3
  have hA := Lib.hid hA
  have hB := Lib.hid hB
  have TWO := Lib.hid two
  have HS8 := Lib.hid hs8
  have r0 := (hw8.cell (p := ⟨w.heap.size + 1, 0, none⟩) (by show w.heap.size + 1 < w1.heap.size + 1; omega)).trans (keepCell HZ2.out m0.out); have r1 := (hw8.cell (p := ⟨w.heap.size + 1, 1, none⟩) (by show w.heap.size + 1 < w1.heap.size + 1; omega)).trans (keepCell HZ2.out m1.out); have r2 := (hw8.cell (p := ⟨w.heap.size + 1, 2, none⟩) (by show w.heap.size + 1 < w1.heap.size + 1; omega)).trans (keepCell HZ2.out m2.out); have r3 := (hw8.cell (p := ⟨w.heap.size + 1, 3, none⟩) (by show w.heap.size + 1 < w1.heap.size + 1; omega)).trans (keepCell HZ2.out m3.out)
  have rf : ∀ j, w8.frozen? ⟨w.heap.size + 1, j, none⟩ = false := fun j => (hw8.frozen (p := ⟨w.heap.size + 1, j, none⟩) (by show w.heap.size + 1 < w1.heap.size + 1; omega)).trans ((HZ2.out.frozen (p := ⟨w.heap.size + 1, j, none⟩) l1).trans (mf.out j))
  have rf0 := rf 0; have rf1 := rf 1; have rf2 := rf 2; have rf3 := rf 3
  have hzz := Lib.hid ((bthen hz1.out HZ2.out).trans (hw8.mono (by omega)))
  have xa : w.heap.size + 1 ≠ w1.heap.size + 1 := by omega
  have xb : w1.heap.size + 1 ≠ w.heap.size + 1 := by omega
  have xc : w.heap.size ≠ w1.heap.size := by omega
  have xd : w1.heap.size ≠ w.heap.size := by omega
  clear rf two hs8 hb6 hb7 hT6 hT7 hz6 hz7 x3 xf xl xn hS J0 J1 hw6 hw7 hw8 A0 A1 A2 A3 AF N0 N1 N2
  go_wp2
  try simp only [Exit.inBlock, Exit.then]
  have hres : Try.f12.results = #[.cell 6 27] := rfl
  refine bodyPost_ret (v := .agg #[.int .i64 3, .int .i64 m, .int .i64 0, .slice (some ⟨w7.heap.size, 0, none⟩) 2 2]) (by simp only [results, hres]; go_simp) rfl ?_
  have hzF := hzz.out
  have hsF := HS8.out
  refine ⟨by go_grown, 3, m, 0, [.mk k6 a6 i6 l6, .mk k7 a7 i7 l7], some ⟨w7.heap.size, 0, none⟩, 2, rfl, rfl, TreeB.mk2 3 _ 0 2 (Two.keep TWO.out (by repeat rw [Below.heap_setCell _ _ _ _ (by first | (show w7.heap.size ≠ w.heap.size + 1; omega) | (show w7.heap.size ≠ w1.heap.size + 1; omega))])) ?_ ?_ ?_ (by omega)⟩
  · simp only [World.size_setCell]; omega
  · refine TreeB.mono ((((hA.out.setCell (.inl ?_) _).setCell (.inl ?_) _).setCell (.inl ?_) _).setCell (.inl ?_) _) (by omega) (by simp only [World.size_setCell]; omega)
    all_goals first | exact al | (show w.heap.size + 1 < w2.heap.size; omega)
  · refine TreeB.mono ((((hB.out.setCell (.inl ?_) _).setCell (.inl ?_) _).setCell (.inl ?_) _).setCell (.inl ?_) _) (by omega) (by simp only [World.size_setCell]; omega)
    all_goals first | exact al | (show w.heap.size + 1 < w2.heap.size; omega)
theorem tree_any (items : List Item) (hm : items.length ≤ 8) (H X g n cap : Nat) (F : Nat → Choice) (hH : H ≤ 40) (hX : X ≤ 40) (hn : n ≤ 1681) (hF : ∀ a b, 1 ≤ a → a ≤ X → 1 ≤ b → b ≤ H → F (a * (H + 1) + b) = bv items a b ∧ a * (H + 1) + b < n) :
    ∀ (k x y : Nat) (X' Y' : Int) (w : World), X' = x → Y' = y → Tab w g n F → 1 ≤ x → x ≤ X → 1 ≤ y → y ≤ H → x + y ≤ k + 1 → Calls Try.prog 12 #[.agg #[.int .i64 H, .slice (some ⟨g, 0, none⟩) n cap], .int .i64 X', .int .i64 Y'] w (RetTree (treeV items k x y) w) := by
  intro k
  induction k with
  | zero => intro x y X' Y' w _ _ _ h1 h2 h3 h4 h5; omega
  | succ k ih =>
    intro x y X' Y' w hX' hY' hT hx1 hx hy1 hy hk
    subst hX' hY'
    obtain ⟨hc, hi⟩ := hF x y hx1 hx hy1 hy
    have hC := (bv_spec items hx1 hy1).2
    unfold treeV
    generalize bv items x y = c at *
    cases hC with
    | waste => exact tree_leaf H x y g n cap F w hT hH (by omega) hy hn hi 0 0 0 0 (by decide) (by decide) hc (by omega)
    | piece j hj hf =>
      have e : (if (1 : Int) = 2 then Tree.mk 2 0 j [treeV items k (Int.toNat 0) y, treeV items k (x - Int.toNat 0) y] else if (1 : Int) = 3 then Tree.mk 3 0 j [treeV items k x (Int.toNat 0), treeV items k x (y - Int.toNat 0)] else Tree.mk 1 0 j []) = Tree.mk 1 0 j [] := by simp
      show Calls _ _ _ _ (RetTree (if (1 : Int) = 2 then Tree.mk 2 0 j [treeV items k (Int.toNat 0) y, treeV items k (x - Int.toNat 0) y] else if (1 : Int) = 3 then Tree.mk 3 0 j [treeV items k x (Int.toNat 0), treeV items k x (y - Int.toNat 0)] else Tree.mk 1 0 j []) w)
      rw [e]
      exact tree_leaf H x y g n cap F w hT hH (by omega) hy hn hi 1 0 j _ (by decide) (by decide) hc (by omega)
    | sides m h1 h2 =>
      show Calls _ _ _ _ (RetTree (.mk 2 m 0 [treeV items k (m : Int).toNat y, treeV items k (x - (m : Int).toNat) y]) w)
      rw [Int.toNat_natCast]
      exact tree_sides H x y g n cap F w hT hH (by omega) hy hn hi m _ h1 h2 hc _ _ (fun w' hb => ih m y _ _ w' rfl rfl (hT.below hb (hT.at' _ hi).lt) h1 (by omega) hy1 hy (by omega)) (fun w' hb => ih (x - m) y _ _ w' (by omega) rfl (hT.below hb (hT.at' _ hi).lt) (by omega) (by omega) hy1 hy (by omega))
    | ends m h1 h2 =>
      show Calls _ _ _ _ (RetTree (.mk 3 m 0 [treeV items k x (m : Int).toNat, treeV items k x (y - (m : Int).toNat)]) w)
      rw [Int.toNat_natCast]
      exact tree_ends H x y g n cap F w hT hH (by omega) hy hn hi m _ h1 h2 hc _ _ (fun w' hb => ih x m _ _ w' rfl rfl (hT.below hb (hT.at' _ hi).lt) hx1 hx h1 (by omega) (by omega)) (fun w' hb => ih x (y - m) _ _ w' rfl (by omega) (hT.below hb (hT.at' _ hi).lt) hx1 hx (by omega) (by omega) (by omega))
end Go.Proofs.Ytmfmpmemdplloaa
