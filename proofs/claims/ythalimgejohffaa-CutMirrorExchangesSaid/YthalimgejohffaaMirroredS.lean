/-
  law4.mirrored: its walk at a cut into sides. Own text.
-/
import Derived.Test.YthalimgejohffaaMirrored
namespace Go.Proofs.Ythalimgejohffaa
open Go.RowKit
set_option linter.unusedVariables false
set_option maxRecDepth 100000 in
set_option maxHeartbeats 40000000 in
theorem mirrored_sides (s : Bool) (a k0 a0 i0 k1 a1 i1 : Int) (n0 n1 : Nat) (tb toff ca p0 p1 : Nat) (o0 o1 : Option Addr) (W H : Int) (T0 T1 : Tree) (w : World) (hW : -3280 ≤ W ∧ W ≤ 40 ∧ -3280 ≤ H ∧ H ≤ 40) (ha : 1 ≤ a ∧ a ≤ 39)
    (c0 : w.cell? ⟨tb, toff, none⟩ = some (.int .i64 k0))
    (c1 : w.cell? ⟨tb, toff + 1, none⟩ = some (.int .i64 a0))
    (c2 : w.cell? ⟨tb, toff + 2, none⟩ = some (.int .i64 i0))
    (c3 : w.cell? ⟨tb, toff + 3, none⟩ = some (.slice o0 n0 p0))
    (c4 : w.cell? ⟨tb, toff + 4, none⟩ = some (.int .i64 k1))
    (c5 : w.cell? ⟨tb, toff + 4 + 1, none⟩ = some (.int .i64 a1))
    (c6 : w.cell? ⟨tb, toff + 4 + 2, none⟩ = some (.int .i64 i1))
    (c7 : w.cell? ⟨tb, toff + 4 + 3, none⟩ = some (.slice o1 n1 p1))
    (ih0 : ∀ w', Below w.heap.size w w' → Calls Try.prog 18 #[.agg #[.int .i64 k0, .int .i64 a0, .int .i64 i0, .slice o0 n0 p0], .int .i64 a, .int .i64 H, .bool s] w' (RetTree T0 w'))
    (ih1 : ∀ w', Below w.heap.size w w' → Calls Try.prog 18 #[.agg #[.int .i64 k1, .int .i64 a1, .int .i64 i1, .slice o1 n1 p1], .int .i64 (W - a), .int .i64 H, .bool s] w' (RetTree T1 w'))
    : Calls Try.prog 18 #[.agg #[.int .i64 2, .int .i64 a, .int .i64 0, .slice (some ⟨tb, toff, none⟩) 2 ca], .int .i64 W, .int .i64 H, .bool s] w (RetTree (pick2 s (.mk 2 (W - a) 0 [T1, T0]) (.mk 2 a 0 [T0, T1])) w) := by
  have I0 := Lib.hid ih0
  have I1 := Lib.hid ih1
  clear ih0 ih1
  go_enter Try.func18, Try.ntmps18
  go_wp2
  go_quiet (fail)
  go_wp2
  have hb2 : Below w.heap.size w ((((w.alloc (.cells #[.int .i64 2, .int .i64 a, .int .i64 0, .slice (some ⟨tb, toff, none⟩) 2 ca] 25)).alloc (.cells #[.int .i64 0, .int .i64 0, .int .i64 0, .slice none 0 0] 25)).alloc (.cells #[.int .i64 2, .int .i64 a, .int .i64 0, .slice none 0 0] 25)).drewN nq) := bdrewN (balloc (balloc (balloc (Below.refl _ w) _) _) _) nq
  have f0 : ((((w.alloc (.cells #[.int .i64 2, .int .i64 a, .int .i64 0, .slice (some ⟨tb, toff, none⟩) 2 ca] 25)).alloc (.cells #[.int .i64 0, .int .i64 0, .int .i64 0, .slice none 0 0] 25)).alloc (.cells #[.int .i64 2, .int .i64 a, .int .i64 0, .slice none 0 0] 25)).drewN nq).cell? ⟨w.heap.size, 0, none⟩ = some (.int .i64 2) := by go_simp
  have f1 : ((((w.alloc (.cells #[.int .i64 2, .int .i64 a, .int .i64 0, .slice (some ⟨tb, toff, none⟩) 2 ca] 25)).alloc (.cells #[.int .i64 0, .int .i64 0, .int .i64 0, .slice none 0 0] 25)).alloc (.cells #[.int .i64 2, .int .i64 a, .int .i64 0, .slice none 0 0] 25)).drewN nq).cell? ⟨w.heap.size, 1, none⟩ = some (.int .i64 a) := by go_simp
  have f3 : ((((w.alloc (.cells #[.int .i64 2, .int .i64 a, .int .i64 0, .slice (some ⟨tb, toff, none⟩) 2 ca] 25)).alloc (.cells #[.int .i64 0, .int .i64 0, .int .i64 0, .slice none 0 0] 25)).alloc (.cells #[.int .i64 2, .int .i64 a, .int .i64 0, .slice none 0 0] 25)).drewN nq).cell? ⟨w.heap.size, 3, none⟩ = some (.slice (some ⟨tb, toff, none⟩) 2 ca) := by go_simp
  have g0 : ((((w.alloc (.cells #[.int .i64 2, .int .i64 a, .int .i64 0, .slice (some ⟨tb, toff, none⟩) 2 ca] 25)).alloc (.cells #[.int .i64 0, .int .i64 0, .int .i64 0, .slice none 0 0] 25)).alloc (.cells #[.int .i64 2, .int .i64 a, .int .i64 0, .slice none 0 0] 25)).drewN nq).cell? ⟨w.heap.size + 1, 0, none⟩ = some (.int .i64 0) := by go_simp
  have gf0 : ((((w.alloc (.cells #[.int .i64 2, .int .i64 a, .int .i64 0, .slice (some ⟨tb, toff, none⟩) 2 ca] 25)).alloc (.cells #[.int .i64 0, .int .i64 0, .int .i64 0, .slice none 0 0] 25)).alloc (.cells #[.int .i64 2, .int .i64 a, .int .i64 0, .slice none 0 0] 25)).drewN nq).frozen? ⟨w.heap.size + 1, 0, none⟩ = false := by go_simp
  have g1 : ((((w.alloc (.cells #[.int .i64 2, .int .i64 a, .int .i64 0, .slice (some ⟨tb, toff, none⟩) 2 ca] 25)).alloc (.cells #[.int .i64 0, .int .i64 0, .int .i64 0, .slice none 0 0] 25)).alloc (.cells #[.int .i64 2, .int .i64 a, .int .i64 0, .slice none 0 0] 25)).drewN nq).cell? ⟨w.heap.size + 1, 1, none⟩ = some (.int .i64 0) := by go_simp
  have gf1 : ((((w.alloc (.cells #[.int .i64 2, .int .i64 a, .int .i64 0, .slice (some ⟨tb, toff, none⟩) 2 ca] 25)).alloc (.cells #[.int .i64 0, .int .i64 0, .int .i64 0, .slice none 0 0] 25)).alloc (.cells #[.int .i64 2, .int .i64 a, .int .i64 0, .slice none 0 0] 25)).drewN nq).frozen? ⟨w.heap.size + 1, 1, none⟩ = false := by go_simp
  have g2 : ((((w.alloc (.cells #[.int .i64 2, .int .i64 a, .int .i64 0, .slice (some ⟨tb, toff, none⟩) 2 ca] 25)).alloc (.cells #[.int .i64 0, .int .i64 0, .int .i64 0, .slice none 0 0] 25)).alloc (.cells #[.int .i64 2, .int .i64 a, .int .i64 0, .slice none 0 0] 25)).drewN nq).cell? ⟨w.heap.size + 1, 2, none⟩ = some (.int .i64 0) := by go_simp
  have gf2 : ((((w.alloc (.cells #[.int .i64 2, .int .i64 a, .int .i64 0, .slice (some ⟨tb, toff, none⟩) 2 ca] 25)).alloc (.cells #[.int .i64 0, .int .i64 0, .int .i64 0, .slice none 0 0] 25)).alloc (.cells #[.int .i64 2, .int .i64 a, .int .i64 0, .slice none 0 0] 25)).drewN nq).frozen? ⟨w.heap.size + 1, 2, none⟩ = false := by go_simp
  have g3 : ((((w.alloc (.cells #[.int .i64 2, .int .i64 a, .int .i64 0, .slice (some ⟨tb, toff, none⟩) 2 ca] 25)).alloc (.cells #[.int .i64 0, .int .i64 0, .int .i64 0, .slice none 0 0] 25)).alloc (.cells #[.int .i64 2, .int .i64 a, .int .i64 0, .slice none 0 0] 25)).drewN nq).cell? ⟨w.heap.size + 1, 3, none⟩ = some (.slice none 0 0) := by go_simp
  have gf3 : ((((w.alloc (.cells #[.int .i64 2, .int .i64 a, .int .i64 0, .slice (some ⟨tb, toff, none⟩) 2 ca] 25)).alloc (.cells #[.int .i64 0, .int .i64 0, .int .i64 0, .slice none 0 0] 25)).alloc (.cells #[.int .i64 2, .int .i64 a, .int .i64 0, .slice none 0 0] 25)).drewN nq).frozen? ⟨w.heap.size + 1, 3, none⟩ = false := by go_simp
  have h0 : ((((w.alloc (.cells #[.int .i64 2, .int .i64 a, .int .i64 0, .slice (some ⟨tb, toff, none⟩) 2 ca] 25)).alloc (.cells #[.int .i64 0, .int .i64 0, .int .i64 0, .slice none 0 0] 25)).alloc (.cells #[.int .i64 2, .int .i64 a, .int .i64 0, .slice none 0 0] 25)).drewN nq).cell? ⟨w.heap.size + 1 + 1, 0, none⟩ = some (.int .i64 2) := by go_simp
  have hf0 : ((((w.alloc (.cells #[.int .i64 2, .int .i64 a, .int .i64 0, .slice (some ⟨tb, toff, none⟩) 2 ca] 25)).alloc (.cells #[.int .i64 0, .int .i64 0, .int .i64 0, .slice none 0 0] 25)).alloc (.cells #[.int .i64 2, .int .i64 a, .int .i64 0, .slice none 0 0] 25)).drewN nq).frozen? ⟨w.heap.size + 1 + 1, 0, none⟩ = false := by go_simp
  have h1 : ((((w.alloc (.cells #[.int .i64 2, .int .i64 a, .int .i64 0, .slice (some ⟨tb, toff, none⟩) 2 ca] 25)).alloc (.cells #[.int .i64 0, .int .i64 0, .int .i64 0, .slice none 0 0] 25)).alloc (.cells #[.int .i64 2, .int .i64 a, .int .i64 0, .slice none 0 0] 25)).drewN nq).cell? ⟨w.heap.size + 1 + 1, 1, none⟩ = some (.int .i64 a) := by go_simp
  have hf1 : ((((w.alloc (.cells #[.int .i64 2, .int .i64 a, .int .i64 0, .slice (some ⟨tb, toff, none⟩) 2 ca] 25)).alloc (.cells #[.int .i64 0, .int .i64 0, .int .i64 0, .slice none 0 0] 25)).alloc (.cells #[.int .i64 2, .int .i64 a, .int .i64 0, .slice none 0 0] 25)).drewN nq).frozen? ⟨w.heap.size + 1 + 1, 1, none⟩ = false := by go_simp
  have h2 : ((((w.alloc (.cells #[.int .i64 2, .int .i64 a, .int .i64 0, .slice (some ⟨tb, toff, none⟩) 2 ca] 25)).alloc (.cells #[.int .i64 0, .int .i64 0, .int .i64 0, .slice none 0 0] 25)).alloc (.cells #[.int .i64 2, .int .i64 a, .int .i64 0, .slice none 0 0] 25)).drewN nq).cell? ⟨w.heap.size + 1 + 1, 2, none⟩ = some (.int .i64 0) := by go_simp
  have hf2 : ((((w.alloc (.cells #[.int .i64 2, .int .i64 a, .int .i64 0, .slice (some ⟨tb, toff, none⟩) 2 ca] 25)).alloc (.cells #[.int .i64 0, .int .i64 0, .int .i64 0, .slice none 0 0] 25)).alloc (.cells #[.int .i64 2, .int .i64 a, .int .i64 0, .slice none 0 0] 25)).drewN nq).frozen? ⟨w.heap.size + 1 + 1, 2, none⟩ = false := by go_simp
  have h3 : ((((w.alloc (.cells #[.int .i64 2, .int .i64 a, .int .i64 0, .slice (some ⟨tb, toff, none⟩) 2 ca] 25)).alloc (.cells #[.int .i64 0, .int .i64 0, .int .i64 0, .slice none 0 0] 25)).alloc (.cells #[.int .i64 2, .int .i64 a, .int .i64 0, .slice none 0 0] 25)).drewN nq).cell? ⟨w.heap.size + 1 + 1, 3, none⟩ = some (.slice none 0 0) := by go_simp
  have hf3 : ((((w.alloc (.cells #[.int .i64 2, .int .i64 a, .int .i64 0, .slice (some ⟨tb, toff, none⟩) 2 ca] 25)).alloc (.cells #[.int .i64 0, .int .i64 0, .int .i64 0, .slice none 0 0] 25)).alloc (.cells #[.int .i64 2, .int .i64 a, .int .i64 0, .slice none 0 0] 25)).drewN nq).frozen? ⟨w.heap.size + 1 + 1, 3, none⟩ = false := by go_simp
  have lt2 : w.heap.size + 1 + 1 < ((((w.alloc (.cells #[.int .i64 2, .int .i64 a, .int .i64 0, .slice (some ⟨tb, toff, none⟩) 2 ca] 25)).alloc (.cells #[.int .i64 0, .int .i64 0, .int .i64 0, .slice none 0 0] 25)).alloc (.cells #[.int .i64 2, .int .i64 a, .int .i64 0, .slice none 0 0] 25)).drewN nq).heap.size := by simp [World.drewN]
  revert hb2 f0 f1 f3 g0 gf0 g1 gf1 g2 gf2 g3 gf3 h0 hf0 h1 hf1 h2 hf2 h3 hf3 lt2
  generalize World.drewN _ nq = w2
  intro hb2 f0 f1 f3 g0 gf0 g1 gf1 g2 gf2 g3 gf3 h0 hf0 h1 hf1 h2 hf2 h3 hf3 lt2
  have hS : Hid (∀ w', Below w2.heap.size w2 w' → (Below w2.heap.size w2 w' ∧ w'.cell? ⟨w.heap.size, 3, none⟩ = some (.slice (some ⟨tb, toff, none⟩) 2 ca) ∧ w'.cell? ⟨tb, toff, none⟩ = some (.int .i64 k0) ∧ w'.cell? ⟨tb, toff + 1, none⟩ = some (.int .i64 a0) ∧ w'.cell? ⟨tb, toff + 2, none⟩ = some (.int .i64 i0) ∧ w'.cell? ⟨tb, toff + 3, none⟩ = some (.slice o0 n0 p0) ∧ w'.cell? ⟨tb, toff + 4, none⟩ = some (.int .i64 k1) ∧ w'.cell? ⟨tb, toff + 4 + 1, none⟩ = some (.int .i64 a1) ∧ w'.cell? ⟨tb, toff + 4 + 2, none⟩ = some (.int .i64 i1) ∧ w'.cell? ⟨tb, toff + 4 + 3, none⟩ = some (.slice o1 n1 p1))) := fun w' hb =>
    ⟨hb, keepCell hb f3, keepCell hb (keepCell hb2 c0), keepCell hb (keepCell hb2 c1), keepCell hb (keepCell hb2 c2), keepCell hb (keepCell hb2 c3), keepCell hb (keepCell hb2 c4), keepCell hb (keepCell hb2 c5), keepCell hb (keepCell hb2 c6), keepCell hb (keepCell hb2 c7)⟩
  have J0 : Hid (∀ w', Below w2.heap.size w2 w' → Calls Try.prog 18 #[.agg #[.int .i64 k0, .int .i64 a0, .int .i64 i0, .slice o0 n0 p0], .int .i64 a, .int .i64 H, .bool s] w' (RetTree T0 w')) := fun w' hb => I0.out w' (bthen hb2 hb)
  have J1 : Hid (∀ w', Below w2.heap.size w2 w' → Calls Try.prog 18 #[.agg #[.int .i64 k1, .int .i64 a1, .int .i64 i1, .slice o1 n1 p1], .int .i64 (W - a), .int .i64 H, .bool s] w' (RetTree T1 w')) := fun w' hb => I1.out w' (bthen hb2 hb)
  have hb2x := Lib.hid hb2; clear hb2; have hb2 := hb2x; clear hb2x; have lt2x := Lib.hid lt2; clear lt2; have lt2 := lt2x; clear lt2x
  clear I0 I1 c0 c1 c2 c3 c4 c5 c6 c7
  have Kf0 := Lib.hid f0; clear f0
  have Kf1 := Lib.hid f1; clear f1
  have Kg0 := Lib.hid g0; clear g0
  have Kg1 := Lib.hid g1; clear g1
  have Kg2 := Lib.hid g2; clear g2
  have Kg3 := Lib.hid g3; clear g3
  have Kh0 := Lib.hid h0; clear h0
  have Kh1 := Lib.hid h1; clear h1
  have Kh2 := Lib.hid h2; clear h2
  have Kh3 := Lib.hid h3; clear h3
  have Kgf0 := Lib.hid gf0; clear gf0
  have Kgf1 := Lib.hid gf1; clear gf1
  have Kgf2 := Lib.hid gf2; clear gf2
  have Kgf3 := Lib.hid gf3; clear gf3
  have Khf0 := Lib.hid hf0; clear hf0
  have Khf1 := Lib.hid hf1; clear hf1
  have Khf2 := Lib.hid hf2; clear hf2
  have Khf3 := Lib.hid hf3; clear hf3
  clear f3
  go_cut [14, 15] (fun s14 s15 wx => TwoTrees T0 T1 w2 s14 s15 wx)
  case first =>
    go_region_held3 (fun w' => Below w2.heap.size w2 w' ∧ w'.cell? ⟨w.heap.size, 3, none⟩ = some (.slice (some ⟨tb, toff, none⟩) 2 ca) ∧ w'.cell? ⟨tb, toff, none⟩ = some (.int .i64 k0) ∧ w'.cell? ⟨tb, toff + 1, none⟩ = some (.int .i64 a0) ∧ w'.cell? ⟨tb, toff + 2, none⟩ = some (.int .i64 i0) ∧ w'.cell? ⟨tb, toff + 3, none⟩ = some (.slice o0 n0 p0) ∧ w'.cell? ⟨tb, toff + 4, none⟩ = some (.int .i64 k1) ∧ w'.cell? ⟨tb, toff + 4 + 1, none⟩ = some (.int .i64 a1) ∧ w'.cell? ⟨tb, toff + 4 + 2, none⟩ = some (.int .i64 i1) ∧ w'.cell? ⟨tb, toff + 4 + 3, none⟩ = some (.slice o1 n1 p1))
      ((refine hS.out _ ?_; go_grown))
      (first | fail | (go_simp; go_at_call 18; (with_reducible refine (J0.out _ (And.left (by assumption))).mono ?_); rintro e w3 ⟨hb3, k3, a3, i3, l3, o3, p3, rfl, rfl, hT3⟩; have hz3 : Below w2.heap.size w2 w3 := bthen (And.left (by assumption)) hb3; have sz3 := hz3.size; obtain ⟨hc3, hf3⟩ := bcell hb3; (try have q320 : w2.heap.size < w3.heap.size := by have := hb3.size; (try simp at this); omega); (try have r320 : w2.heap.size ≠ w3.heap.size := by have := hb3.size; (try simp at this); omega); (try have s320 : w3.heap.size ≠ w2.heap.size := by have := hb3.size; (try simp at this); omega); (try have q321 : w2.heap.size + 1 < w3.heap.size := by have := hb3.size; (try simp at this); omega); (try have r321 : w2.heap.size + 1 ≠ w3.heap.size := by have := hb3.size; (try simp at this); omega); (try have s321 : w3.heap.size ≠ w2.heap.size + 1 := by have := hb3.size; (try simp at this); omega)) | (go_simp; go_at_call 18; (with_reducible refine (J1.out _ (And.left (by assumption))).mono ?_); rintro e w4 ⟨hb4, k4, a4, i4, l4, o4, p4, rfl, rfl, hT4⟩; have hz4 : Below w2.heap.size w2 w4 := bthen (And.left (by assumption)) hb4; have sz4 := hz4.size; obtain ⟨hc4, hf4⟩ := bcell hb4; (try have q420 : w2.heap.size < w4.heap.size := by have := hb4.size; (try simp at this); omega); (try have r420 : w2.heap.size ≠ w4.heap.size := by have := hb4.size; (try simp at this); omega); (try have s420 : w4.heap.size ≠ w2.heap.size := by have := hb4.size; (try simp at this); omega); (try have q421 : w2.heap.size + 1 < w4.heap.size := by have := hb4.size; (try simp at this); omega); (try have r421 : w2.heap.size + 1 ≠ w4.heap.size := by have := hb4.size; (try simp at this); omega); (try have s421 : w4.heap.size ≠ w2.heap.size + 1 := by have := hb4.size; (try simp at this); omega); (try have q430 : w3.heap.size < w4.heap.size := by have := hb4.size; (try simp at this); omega); (try have r430 : w3.heap.size ≠ w4.heap.size := by have := hb4.size; (try simp at this); omega); (try have s430 : w4.heap.size ≠ w3.heap.size := by have := hb4.size; (try simp at this); omega); (try have q431 : w3.heap.size + 1 < w4.heap.size := by have := hb4.size; (try simp at this); omega); (try have r431 : w3.heap.size + 1 ≠ w4.heap.size := by have := hb4.size; (try simp at this); omega); (try have s431 : w4.heap.size ≠ w3.heap.size + 1 := by have := hb4.size; (try simp at this); omega)))
    all_goals
      go_wp2_with fail
      go_meet
      have t3 := hb3.size
      have t4 := hb4.size
      try simp only [World.size_alloc, World.size_drew] at t3
      try simp only [World.size_alloc, World.size_drew] at t4
      (try have y00 : w2.heap.size < w3.heap.size := by omega)
      (try have x00 : w2.heap.size ≠ w3.heap.size := by omega)
      (try have v00 : w3.heap.size ≠ w2.heap.size := by omega)
      (try have y01 : w2.heap.size < w3.heap.size + 1 := by omega)
      (try have x01 : w2.heap.size ≠ w3.heap.size + 1 := by omega)
      (try have v01 : w3.heap.size + 1 ≠ w2.heap.size := by omega)
      (try have y02 : w2.heap.size < w4.heap.size := by omega)
      (try have x02 : w2.heap.size ≠ w4.heap.size := by omega)
      (try have v02 : w4.heap.size ≠ w2.heap.size := by omega)
      (try have y03 : w2.heap.size < w4.heap.size + 1 := by omega)
      (try have x03 : w2.heap.size ≠ w4.heap.size + 1 := by omega)
      (try have v03 : w4.heap.size + 1 ≠ w2.heap.size := by omega)
      (try have y10 : w2.heap.size + 1 < w3.heap.size := by omega)
      (try have x10 : w2.heap.size + 1 ≠ w3.heap.size := by omega)
      (try have v10 : w3.heap.size ≠ w2.heap.size + 1 := by omega)
      (try have y11 : w2.heap.size + 1 < w3.heap.size + 1 := by omega)
      (try have x11 : w2.heap.size + 1 ≠ w3.heap.size + 1 := by omega)
      (try have v11 : w3.heap.size + 1 ≠ w2.heap.size + 1 := by omega)
      (try have y12 : w2.heap.size + 1 < w4.heap.size := by omega)
      (try have x12 : w2.heap.size + 1 ≠ w4.heap.size := by omega)
      (try have v12 : w4.heap.size ≠ w2.heap.size + 1 := by omega)
      (try have y13 : w2.heap.size + 1 < w4.heap.size + 1 := by omega)
      (try have x13 : w2.heap.size + 1 ≠ w4.heap.size + 1 := by omega)
      (try have v13 : w4.heap.size + 1 ≠ w2.heap.size + 1 := by omega)
      (try have y21 : w3.heap.size < w3.heap.size + 1 := by omega)
      (try have x21 : w3.heap.size ≠ w3.heap.size + 1 := by omega)
      (try have v21 : w3.heap.size + 1 ≠ w3.heap.size := by omega)
      (try have y22 : w3.heap.size < w4.heap.size := by omega)
      (try have x22 : w3.heap.size ≠ w4.heap.size := by omega)
      (try have v22 : w4.heap.size ≠ w3.heap.size := by omega)
      (try have y23 : w3.heap.size < w4.heap.size + 1 := by omega)
      (try have x23 : w3.heap.size ≠ w4.heap.size + 1 := by omega)
      (try have v23 : w4.heap.size + 1 ≠ w3.heap.size := by omega)
      (try have y30 : w3.heap.size + 1 < w3.heap.size := by omega)
      (try have x30 : w3.heap.size + 1 ≠ w3.heap.size := by omega)
      (try have v30 : w3.heap.size ≠ w3.heap.size + 1 := by omega)
      (try have y32 : w3.heap.size + 1 < w4.heap.size := by omega)
      (try have x32 : w3.heap.size + 1 ≠ w4.heap.size := by omega)
      (try have v32 : w4.heap.size ≠ w3.heap.size + 1 := by omega)
      (try have y33 : w3.heap.size + 1 < w4.heap.size + 1 := by omega)
      (try have x33 : w3.heap.size + 1 ≠ w4.heap.size + 1 := by omega)
      (try have v33 : w4.heap.size + 1 ≠ w3.heap.size + 1 := by omega)
      (try have z00 : w4.cell? ⟨w2.heap.size, 0, none⟩ = some (.int .i64 0) := (by (first | (rw [hc4 _ _ (by (try simp only [World.size_alloc, World.size_drew]); omega)]; first | (rw [hc3 _ _ (by (try simp only [World.size_alloc, World.size_drew]); omega)]; go_simp; done) | (go_simp; rw [hc3 _ _ (by (try simp only [World.size_alloc, World.size_drew]); omega)]; go_simp; done) | (go_simp; done) | fail) | fail)))
      (try have z01 : w4.cell? ⟨w2.heap.size, 1, none⟩ = some (.int .i64 0) := (by (first | (rw [hc4 _ _ (by (try simp only [World.size_alloc, World.size_drew]); omega)]; first | (rw [hc3 _ _ (by (try simp only [World.size_alloc, World.size_drew]); omega)]; go_simp; done) | (go_simp; rw [hc3 _ _ (by (try simp only [World.size_alloc, World.size_drew]); omega)]; go_simp; done) | (go_simp; done) | fail) | fail)))
      (try have z02 : w4.cell? ⟨w2.heap.size, 2, none⟩ = some (.int .i64 0) := (by (first | (rw [hc4 _ _ (by (try simp only [World.size_alloc, World.size_drew]); omega)]; first | (rw [hc3 _ _ (by (try simp only [World.size_alloc, World.size_drew]); omega)]; go_simp; done) | (go_simp; rw [hc3 _ _ (by (try simp only [World.size_alloc, World.size_drew]); omega)]; go_simp; done) | (go_simp; done) | fail) | fail)))
      (try have z03 : w4.cell? ⟨w2.heap.size, 3, none⟩ = some (.slice none 0 0) := (by (first | (rw [hc4 _ _ (by (try simp only [World.size_alloc, World.size_drew]); omega)]; first | (rw [hc3 _ _ (by (try simp only [World.size_alloc, World.size_drew]); omega)]; go_simp; done) | (go_simp; rw [hc3 _ _ (by (try simp only [World.size_alloc, World.size_drew]); omega)]; go_simp; done) | (go_simp; done) | fail) | fail)))
      (try have zf0 : ∀ j, w4.frozen? ⟨w2.heap.size, j, none⟩ = false := (by intro j; (first | (rw [hf4 _ _ (by (try simp only [World.size_alloc, World.size_drew]); omega)]; first | (rw [hf3 _ _ (by (try simp only [World.size_alloc, World.size_drew]); omega)]; go_simp; done) | (go_simp; rw [hf3 _ _ (by (try simp only [World.size_alloc, World.size_drew]); omega)]; go_simp; done) | (go_simp; done) | fail) | fail)))
      (try have z10 : w4.cell? ⟨w2.heap.size + 1, 0, none⟩ = some (.int .i64 0) := (by (first | (rw [hc4 _ _ (by (try simp only [World.size_alloc, World.size_drew]); omega)]; first | (rw [hc3 _ _ (by (try simp only [World.size_alloc, World.size_drew]); omega)]; go_simp; done) | (go_simp; rw [hc3 _ _ (by (try simp only [World.size_alloc, World.size_drew]); omega)]; go_simp; done) | (go_simp; done) | fail) | fail)))
      (try have z11 : w4.cell? ⟨w2.heap.size + 1, 1, none⟩ = some (.int .i64 0) := (by (first | (rw [hc4 _ _ (by (try simp only [World.size_alloc, World.size_drew]); omega)]; first | (rw [hc3 _ _ (by (try simp only [World.size_alloc, World.size_drew]); omega)]; go_simp; done) | (go_simp; rw [hc3 _ _ (by (try simp only [World.size_alloc, World.size_drew]); omega)]; go_simp; done) | (go_simp; done) | fail) | fail)))
      (try have z12 : w4.cell? ⟨w2.heap.size + 1, 2, none⟩ = some (.int .i64 0) := (by (first | (rw [hc4 _ _ (by (try simp only [World.size_alloc, World.size_drew]); omega)]; first | (rw [hc3 _ _ (by (try simp only [World.size_alloc, World.size_drew]); omega)]; go_simp; done) | (go_simp; rw [hc3 _ _ (by (try simp only [World.size_alloc, World.size_drew]); omega)]; go_simp; done) | (go_simp; done) | fail) | fail)))
      (try have z13 : w4.cell? ⟨w2.heap.size + 1, 3, none⟩ = some (.slice none 0 0) := (by (first | (rw [hc4 _ _ (by (try simp only [World.size_alloc, World.size_drew]); omega)]; first | (rw [hc3 _ _ (by (try simp only [World.size_alloc, World.size_drew]); omega)]; go_simp; done) | (go_simp; rw [hc3 _ _ (by (try simp only [World.size_alloc, World.size_drew]); omega)]; go_simp; done) | (go_simp; done) | fail) | fail)))
      (try have zf1 : ∀ j, w4.frozen? ⟨w2.heap.size + 1, j, none⟩ = false := (by intro j; (first | (rw [hf4 _ _ (by (try simp only [World.size_alloc, World.size_drew]); omega)]; first | (rw [hf3 _ _ (by (try simp only [World.size_alloc, World.size_drew]); omega)]; go_simp; done) | (go_simp; rw [hf3 _ _ (by (try simp only [World.size_alloc, World.size_drew]); omega)]; go_simp; done) | (go_simp; done) | fail) | fail)))
      (try have z20 : w4.cell? ⟨w3.heap.size, 0, none⟩ = some (.int .i64 0) := (by (first | (rw [hc4 _ _ (by (try simp only [World.size_alloc, World.size_drew]); omega)]; first | (rw [hc3 _ _ (by (try simp only [World.size_alloc, World.size_drew]); omega)]; go_simp; done) | (go_simp; rw [hc3 _ _ (by (try simp only [World.size_alloc, World.size_drew]); omega)]; go_simp; done) | (go_simp; done) | fail) | fail)))
      (try have z21 : w4.cell? ⟨w3.heap.size, 1, none⟩ = some (.int .i64 0) := (by (first | (rw [hc4 _ _ (by (try simp only [World.size_alloc, World.size_drew]); omega)]; first | (rw [hc3 _ _ (by (try simp only [World.size_alloc, World.size_drew]); omega)]; go_simp; done) | (go_simp; rw [hc3 _ _ (by (try simp only [World.size_alloc, World.size_drew]); omega)]; go_simp; done) | (go_simp; done) | fail) | fail)))
      (try have z22 : w4.cell? ⟨w3.heap.size, 2, none⟩ = some (.int .i64 0) := (by (first | (rw [hc4 _ _ (by (try simp only [World.size_alloc, World.size_drew]); omega)]; first | (rw [hc3 _ _ (by (try simp only [World.size_alloc, World.size_drew]); omega)]; go_simp; done) | (go_simp; rw [hc3 _ _ (by (try simp only [World.size_alloc, World.size_drew]); omega)]; go_simp; done) | (go_simp; done) | fail) | fail)))
      (try have z23 : w4.cell? ⟨w3.heap.size, 3, none⟩ = some (.slice none 0 0) := (by (first | (rw [hc4 _ _ (by (try simp only [World.size_alloc, World.size_drew]); omega)]; first | (rw [hc3 _ _ (by (try simp only [World.size_alloc, World.size_drew]); omega)]; go_simp; done) | (go_simp; rw [hc3 _ _ (by (try simp only [World.size_alloc, World.size_drew]); omega)]; go_simp; done) | (go_simp; done) | fail) | fail)))
      (try have zf2 : ∀ j, w4.frozen? ⟨w3.heap.size, j, none⟩ = false := (by intro j; (first | (rw [hf4 _ _ (by (try simp only [World.size_alloc, World.size_drew]); omega)]; first | (rw [hf3 _ _ (by (try simp only [World.size_alloc, World.size_drew]); omega)]; go_simp; done) | (go_simp; rw [hf3 _ _ (by (try simp only [World.size_alloc, World.size_drew]); omega)]; go_simp; done) | (go_simp; done) | fail) | fail)))
      (try have z30 : w4.cell? ⟨w3.heap.size + 1, 0, none⟩ = some (.int .i64 0) := (by (first | (rw [hc4 _ _ (by (try simp only [World.size_alloc, World.size_drew]); omega)]; first | (rw [hc3 _ _ (by (try simp only [World.size_alloc, World.size_drew]); omega)]; go_simp; done) | (go_simp; rw [hc3 _ _ (by (try simp only [World.size_alloc, World.size_drew]); omega)]; go_simp; done) | (go_simp; done) | fail) | fail)))
      (try have z31 : w4.cell? ⟨w3.heap.size + 1, 1, none⟩ = some (.int .i64 0) := (by (first | (rw [hc4 _ _ (by (try simp only [World.size_alloc, World.size_drew]); omega)]; first | (rw [hc3 _ _ (by (try simp only [World.size_alloc, World.size_drew]); omega)]; go_simp; done) | (go_simp; rw [hc3 _ _ (by (try simp only [World.size_alloc, World.size_drew]); omega)]; go_simp; done) | (go_simp; done) | fail) | fail)))
      (try have z32 : w4.cell? ⟨w3.heap.size + 1, 2, none⟩ = some (.int .i64 0) := (by (first | (rw [hc4 _ _ (by (try simp only [World.size_alloc, World.size_drew]); omega)]; first | (rw [hc3 _ _ (by (try simp only [World.size_alloc, World.size_drew]); omega)]; go_simp; done) | (go_simp; rw [hc3 _ _ (by (try simp only [World.size_alloc, World.size_drew]); omega)]; go_simp; done) | (go_simp; done) | fail) | fail)))
      (try have z33 : w4.cell? ⟨w3.heap.size + 1, 3, none⟩ = some (.slice none 0 0) := (by (first | (rw [hc4 _ _ (by (try simp only [World.size_alloc, World.size_drew]); omega)]; first | (rw [hc3 _ _ (by (try simp only [World.size_alloc, World.size_drew]); omega)]; go_simp; done) | (go_simp; rw [hc3 _ _ (by (try simp only [World.size_alloc, World.size_drew]); omega)]; go_simp; done) | (go_simp; done) | fail) | fail)))
      (try have zf3 : ∀ j, w4.frozen? ⟨w3.heap.size + 1, j, none⟩ = false := (by intro j; (first | (rw [hf4 _ _ (by (try simp only [World.size_alloc, World.size_drew]); omega)]; first | (rw [hf3 _ _ (by (try simp only [World.size_alloc, World.size_drew]); omega)]; go_simp; done) | (go_simp; rw [hf3 _ _ (by (try simp only [World.size_alloc, World.size_drew]); omega)]; go_simp; done) | (go_simp; done) | fail) | fail)))
      clear hc3 hf3 hc4 hf4
      refine ⟨_, _, k3, a3, i3, l3, o3, p3, k4, a4, i4, l4, o4, p4, ?_, ?_, ?_, ?_, rfl, rfl, rfl, rfl, And.left (by assumption), ⟨by go_simp, by go_simp, by go_simp, by go_simp, fun j => by go_simp⟩, ⟨by go_simp, by go_simp, by go_simp, by go_simp, fun j => by go_simp⟩, ?_, ?_, ?_⟩
      rotate_left 4
      · repeat (first | (with_reducible exact hT3) | (with_reducible refine TreeB.drew ?_) | (with_reducible refine TreeB.alloc ?_ _) | (with_reducible refine TreeB.setCell ?_ ?_ _) | (with_reducible refine TreeB.under ?_ hb4 ?_))
        all_goals ((try simp only [World.size_alloc, World.size_drew]); omega)
      · repeat (first | (with_reducible exact hT4) | (with_reducible refine TreeB.drew ?_) | (with_reducible refine TreeB.alloc ?_ _) | (with_reducible refine TreeB.setCell ?_ ?_ _))
        all_goals ((try simp only [World.size_alloc, World.size_drew]); omega)
      · (try simp only [World.size_alloc, World.size_setCell, World.size_drew])
        omega
  case rest =>
    obtain ⟨b14, b15, k3, a3, i3, l3, o3, p3, k4, a4, i4, l4, o4, p4, lo3, hi3, lo4, hi4, rfl, rfl, rfl, rfl, hz, O1, O2, hT3, hT4, q1, q2, q3, q4, q5, q6, q7, q8, q9, q10, q11, q12, q13⟩ := hcut
    obtain ⟨x0, x1, x2, x3, xf⟩ := O1
    obtain ⟨y0, y1, y2, y3, yf⟩ := O2
    have xf0 := xf 0; have xf1 := xf 1; have xf2 := xf 2; have xf3 := xf 3
    have yf0 := yf 0; have yf1 := yf 1; have yf2 := yf 2; have yf3 := yf 3
    have hT3' := Lib.hid hT3; clear hT3; have hT3 := hT3'; clear hT3'
    have hT4' := Lib.hid hT4; clear hT4; have hT4 := hT4'; clear hT4'
    have l2 := lt2.out
    have f0 := keepCell hz Kf0.out
    have f1 := keepCell hz Kf1.out
    have g0 := keepCell hz Kg0.out
    have g1 := keepCell hz Kg1.out
    have g2 := keepCell hz Kg2.out
    have g3 := keepCell hz Kg3.out
    have h0 := keepCell hz Kh0.out
    have h1 := keepCell hz Kh1.out
    have h2 := keepCell hz Kh2.out
    have h3 := keepCell hz Kh3.out
    have gf0 := (hz.frozen (p := ⟨w.heap.size + 1, 0, none⟩) (by show w.heap.size + 1 < w2.heap.size; omega)).trans Kgf0.out
    have gf1 := (hz.frozen (p := ⟨w.heap.size + 1, 1, none⟩) (by show w.heap.size + 1 < w2.heap.size; omega)).trans Kgf1.out
    have gf2 := (hz.frozen (p := ⟨w.heap.size + 1, 2, none⟩) (by show w.heap.size + 1 < w2.heap.size; omega)).trans Kgf2.out
    have gf3 := (hz.frozen (p := ⟨w.heap.size + 1, 3, none⟩) (by show w.heap.size + 1 < w2.heap.size; omega)).trans Kgf3.out
    have hf0 := (hz.frozen (p := ⟨w.heap.size + 1 + 1, 0, none⟩) (by show w.heap.size + 1 + 1 < w2.heap.size; omega)).trans Khf0.out
    have hf1 := (hz.frozen (p := ⟨w.heap.size + 1 + 1, 1, none⟩) (by show w.heap.size + 1 + 1 < w2.heap.size; omega)).trans Khf1.out
    have hf2 := (hz.frozen (p := ⟨w.heap.size + 1 + 1, 2, none⟩) (by show w.heap.size + 1 + 1 < w2.heap.size; omega)).trans Khf2.out
    have hf3 := (hz.frozen (p := ⟨w.heap.size + 1 + 1, 3, none⟩) (by show w.heap.size + 1 + 1 < w2.heap.size; omega)).trans Khf3.out
    have hzz := Lib.hid (bthen hb2.out hz)
    have e1 : b14 ≠ w.heap.size + 1 := by omega
    have e2 : b14 ≠ w.heap.size + 1 + 1 := by omega
    have e3 : b15 ≠ w.heap.size + 1 := by omega
    have e4 : b15 ≠ w.heap.size + 1 + 1 := by omega
    have e5 : w.heap.size + 1 ≠ b14 := by omega
    have e6 : w.heap.size + 1 + 1 ≠ b14 := by omega
    have e7 : w.heap.size + 1 ≠ b15 := by omega
    have e8 : w.heap.size + 1 + 1 ≠ b15 := by omega
    have e9 : b14 ≠ w.heap.size := by omega
    have e10 : b15 ≠ w.heap.size := by omega
    have e11 : b15 ≠ b14 := by omega
    have e12 : w.heap.size + 1 < wc.heap.size := by omega
    have e13 : w.heap.size + 1 + 1 < wc.heap.size := by omega
    have e14 : w.heap.size < wc.heap.size := by omega
    clear xf yf hz J0 J1 hS Kf0 Kf1 Kg0 Kg1 Kg2 Kg3 Kh0 Kh1 Kh2 Kh3 Kgf0 Kgf1 Kgf2 Kgf3 Khf0 Khf1 Khf2 Khf3
    cases s with
    | true =>
      repeat (first | go_values | go_skip | go_guarded | go_step | go_upon)
      try simp only [Exit.inBlock, Exit.then]
      have hres : Try.f18.results = #[.cell 8 25] := rfl
      refine bodyPost_ret (v := .agg #[.int .i64 2, .int .i64 (W - a), .int .i64 0, .slice (some ⟨wc.heap.size, 0, none⟩) 2 2]) (by simp only [results, hres]; go_simp) rfl ?_
      have hzF := hzz.out
      refine ⟨by go_grown, 2, (W - a), 0, [.mk k4 a4 i4 l4, .mk k3 a3 i3 l3], some ⟨wc.heap.size, 0, none⟩, 2, rfl, rfl, TreeB.mk2 (k0 := k4) (a0 := a4) (i0 := i4) (o0 := o4) (n0 := l4.length) (p0 := p4) (k1 := k3) (a1 := a3) (i1 := i3) (o1 := o3) (n1 := l3.length) (p1 := p3) 2 _ 0 2 ⟨by go_simp, by go_simp, by go_simp, by go_simp, by go_simp, by go_simp, by go_simp, by go_simp, fun j => by go_simp⟩ ?_ ?_ ?_ (by omega)⟩
      · (try simp only [World.size_alloc, World.size_setCell])
        omega
      · refine TreeB.move (w := wc) ?_ ?_ ?_ hT4.out
        · omega
        · (try simp only [World.size_alloc, World.size_setCell]); omega
        · intro b o v hb1 hb2 hc
          have f1 : b ≠ w.heap.size + 1 := by omega
          have f2 : b ≠ w.heap.size + 1 + 1 := by omega
          have f3 : b ≠ b14 := by omega
          have f4 : b ≠ b15 := by omega
          have f5 : b ≠ wc.heap.size := by omega
          have f1' := f1.symm
          have f2' := f2.symm
          have f3' := f3.symm
          have f4' := f4.symm
          have f5' := f5.symm
          have f6 : b < wc.heap.size := by omega
          go_simp
      · refine TreeB.move (w := wc) ?_ ?_ ?_ hT3.out
        · omega
        · (try simp only [World.size_alloc, World.size_setCell]); omega
        · intro b o v hb1 hb2 hc
          have f1 : b ≠ w.heap.size + 1 := by omega
          have f2 : b ≠ w.heap.size + 1 + 1 := by omega
          have f3 : b ≠ b14 := by omega
          have f4 : b ≠ b15 := by omega
          have f5 : b ≠ wc.heap.size := by omega
          have f1' := f1.symm
          have f2' := f2.symm
          have f3' := f3.symm
          have f4' := f4.symm
          have f5' := f5.symm
          have f6 : b < wc.heap.size := by omega
          go_simp
    | false =>
      repeat (first | go_values | go_skip | go_guarded | go_step | go_upon)
      try simp only [Exit.inBlock, Exit.then]
      have hres : Try.f18.results = #[.cell 8 25] := rfl
      refine bodyPost_ret (v := .agg #[.int .i64 2, .int .i64 a, .int .i64 0, .slice (some ⟨wc.heap.size, 0, none⟩) 2 2]) (by simp only [results, hres]; go_simp) rfl ?_
      have hzF := hzz.out
      refine ⟨by go_grown, 2, a, 0, [.mk k3 a3 i3 l3, .mk k4 a4 i4 l4], some ⟨wc.heap.size, 0, none⟩, 2, rfl, rfl, TreeB.mk2 (k0 := k3) (a0 := a3) (i0 := i3) (o0 := o3) (n0 := l3.length) (p0 := p3) (k1 := k4) (a1 := a4) (i1 := i4) (o1 := o4) (n1 := l4.length) (p1 := p4) 2 _ 0 2 ⟨by go_simp, by go_simp, by go_simp, by go_simp, by go_simp, by go_simp, by go_simp, by go_simp, fun j => by go_simp⟩ ?_ ?_ ?_ (by omega)⟩
      · (try simp only [World.size_alloc, World.size_setCell])
        omega
      · refine TreeB.move (w := wc) ?_ ?_ ?_ hT3.out
        · omega
        · (try simp only [World.size_alloc, World.size_setCell]); omega
        · intro b o v hb1 hb2 hc
          have f1 : b ≠ w.heap.size + 1 := by omega
          have f2 : b ≠ w.heap.size + 1 + 1 := by omega
          have f3 : b ≠ b14 := by omega
          have f4 : b ≠ b15 := by omega
          have f5 : b ≠ wc.heap.size := by omega
          have f1' := f1.symm
          have f2' := f2.symm
          have f3' := f3.symm
          have f4' := f4.symm
          have f5' := f5.symm
          have f6 : b < wc.heap.size := by omega
          go_simp
      · refine TreeB.move (w := wc) ?_ ?_ ?_ hT4.out
        · omega
        · (try simp only [World.size_alloc, World.size_setCell]); omega
        · intro b o v hb1 hb2 hc
          have f1 : b ≠ w.heap.size + 1 := by omega
          have f2 : b ≠ w.heap.size + 1 + 1 := by omega
          have f3 : b ≠ b14 := by omega
          have f4 : b ≠ b15 := by omega
          have f5 : b ≠ wc.heap.size := by omega
          have f1' := f1.symm
          have f2' := f2.symm
          have f3' := f3.symm
          have f4' := f4.symm
          have f5' := f5.symm
          have f6 : b < wc.heap.size := by omega
          go_simp
end Go.Proofs.Ythalimgejohffaa
