/-
  The law CutMirrorExchanges: its walk. Own text.
-/
import Derived.Test.YthalimgejohffaaMirroredB
import Derived.Test.YthalimgejohffaaSame
import Derived.Test.YthalimgejohffaaCuts4
import Derived.Test.YthalimgejohffaaPiled
import Derived.Test.YthalimgejohffaaInvol
import Derived.Handy
import Derived.Deep.RegionHeld3
import Derived.Deep.DeepCutAuto
namespace Go.Proofs.Ythalimgejohffaa
open Go.RowKit
set_option linter.unusedVariables false
set_option maxRecDepth 100000 in
set_option maxHeartbeats 4000000 in
theorem exch_any (W H : Int) (oi : Option Addr) (items : List Item) (ci : Nat) (k a i : Int) (kids : List Tree) (oa : Option Addr) (cap : Nat) (sides : Bool) (w : World) (hm : items.length ≤ maxLen) (hx : Flat w 4 encItem oi items) (hT : TreeAt w (.mk k a i kids) [.int .i64 k, .int .i64 a, .int .i64 i, .slice oa kids.length cap]) :
    Calls Try.prog 5 #[.int .i64 W, .int .i64 H, .slice oi items.length ci, .agg #[.int .i64 k, .int .i64 a, .int .i64 i, .slice oa kids.length cap], .bool sides] w fun e w' => e = .returned (.bool true) ∧ Below w.heap.size w w' := by
  have hb0 : Below w.heap.size w (w.alloc (.cells #[.int .i64 k, .int .i64 a, .int .i64 i, .slice oa kids.length cap] 25)) := balloc (Below.refl _ w) _
  have hx0 := Lib.hid (hx.below hb0)
  have hT0 := Lib.hid (hT.under hb0)
  have b0 : (w.alloc (.cells #[.int .i64 k, .int .i64 a, .int .i64 i, .slice oa kids.length cap] 25)).cell? ⟨w.heap.size, 0, none⟩ = some (.int .i64 k) ∧ (w.alloc (.cells #[.int .i64 k, .int .i64 a, .int .i64 i, .slice oa kids.length cap] 25)).cell? ⟨w.heap.size, 1, none⟩ = some (.int .i64 a) ∧ (w.alloc (.cells #[.int .i64 k, .int .i64 a, .int .i64 i, .slice oa kids.length cap] 25)).cell? ⟨w.heap.size, 2, none⟩ = some (.int .i64 i) ∧ (w.alloc (.cells #[.int .i64 k, .int .i64 a, .int .i64 i, .slice oa kids.length cap] 25)).cell? ⟨w.heap.size, 3, none⟩ = some (.slice oa kids.length cap) := ⟨by go_simp, by go_simp, by go_simp, by go_simp⟩
  have hb0 := Lib.hid hb0
  have B0 := Lib.hid b0
  clear b0 hx hT
  go_enter Try.func5, Try.ntmps5
  go_wp2_with fail
  refine (cuts4_any _).mono ?_
  rintro e w1 ⟨rfl, hb1⟩
  have hz1 := Lib.hid (bthen hb0.out hb1)
  have B1 := Lib.hid (dupCells hb1 B0.out)
  have hx1 := Lib.hid (hx0.out.below hb1)
  have hT1 := Lib.hid (hT0.out.under hb1)
  clear hb1 hx0 hT0 B0
  obtain ⟨m0, m1, m2, m3⟩ := B1.out
  go_wp2_with fail
  refine (Mirror_any W H oi items ci k a i kids oa cap sides _ hm hx1.out hT1.out).mono ?_
  rintro e w2 ⟨hb2, hres⟩
  clear m0 m1 m2 m3
  cases hp : piecesV W H items (.mk k a i kids) with
  | err c =>
    rw [hp] at hres
    have hc1 := piecesV_err hp
    have hc : (c != 0) = true := by simpa using hc1
    have hr : e = .returned (.tuple #[.agg #[.int .i64 0, .int .i64 0, .int .i64 0, .slice none 0 0], .int .i64 c]) := hres
    subst hr
    have HP := Lib.hid hp
    have hA : Below w2.heap.size w2 (w2.alloc (.cells #[.int .i64 0, .int .i64 0, .int .i64 0, .slice none 0 0] 25)) := balloc (Below.refl _ w2) _
    have C2 : (w2.alloc (.cells #[.int .i64 0, .int .i64 0, .int .i64 0, .slice none 0 0] 25)).cell? ⟨w2.heap.size, 0, none⟩ = some (.int .i64 0) ∧ (w2.alloc (.cells #[.int .i64 0, .int .i64 0, .int .i64 0, .slice none 0 0] 25)).cell? ⟨w2.heap.size, 1, none⟩ = some (.int .i64 0) ∧ (w2.alloc (.cells #[.int .i64 0, .int .i64 0, .int .i64 0, .slice none 0 0] 25)).cell? ⟨w2.heap.size, 2, none⟩ = some (.int .i64 0) ∧ (w2.alloc (.cells #[.int .i64 0, .int .i64 0, .int .i64 0, .slice none 0 0] 25)).cell? ⟨w2.heap.size, 3, none⟩ = some (.slice none 0 0) := ⟨by go_simp, by go_simp, by go_simp, by go_simp⟩
    have C2 := Lib.hid C2
    have B2 := dupCells hA (dupCells hb2 B1.out)
    have hz2 := Lib.hid (bthen (bthen hz1.out hb2) hA)
    have hx2 := Lib.hid ((hx1.out.below hb2).below hA)
    have hT2 := Lib.hid ((hT1.out.under hb2).under hA)
    have l2 := Nat.lt_of_lt_of_le (cell?_lt B1.out.1) hb2.size
    obtain ⟨m0, m1, m2, m3⟩ := B2
    clear hres hp hc1 hb2 hx1 hT1 B1 hA
    go_wp2_with fail
    refine (piled_any W H oi items ci (.mk k a i kids) k a i oa kids.length cap _ hm hx2.out hT2.out).mono ?_
    rw [HP.out]
    rintro e w3 ⟨hb3, kb, hkb, rfl, hwa⟩
    have hz3 := Lib.hid (bthen hz2.out hb3)
    obtain ⟨n0, n1, n2, n3⟩ := dupCells hb3 C2.out
    clear hb3 hwa m0 m1 m2 m3
    simp only [Res.code]
    go_wp2
    go_ret
    exact ⟨rfl, hz3.out⟩
  | ok st =>
    rw [hp] at hres
    obtain ⟨k2, a2, i2, l2, o2, p2, hTe, rfl, hM2⟩ := hres
    obtain ⟨s2, hp2, -, -, -, -⟩ := pieces_mir sides hp
    obtain ⟨hok, hsz, -⟩ := pieces_okT hp
    obtain ⟨hok2, -, -⟩ := pieces_okT hp2
    rw [hTe] at hM2 hok2
    have HP := Lib.hid hp
    have hok := Lib.hid hok
    have hok2 := Lib.hid hok2
    have hsz := Lib.hid hsz
    have HE := Lib.hid hTe
    have hA : Below w2.heap.size w2 (w2.alloc (.cells #[.int .i64 k2, .int .i64 a2, .int .i64 i2, .slice o2 l2.length p2] 25)) := balloc (Below.refl _ w2) _
    have C2 : (w2.alloc (.cells #[.int .i64 k2, .int .i64 a2, .int .i64 i2, .slice o2 l2.length p2] 25)).cell? ⟨w2.heap.size, 0, none⟩ = some (.int .i64 k2) ∧ (w2.alloc (.cells #[.int .i64 k2, .int .i64 a2, .int .i64 i2, .slice o2 l2.length p2] 25)).cell? ⟨w2.heap.size, 1, none⟩ = some (.int .i64 a2) ∧ (w2.alloc (.cells #[.int .i64 k2, .int .i64 a2, .int .i64 i2, .slice o2 l2.length p2] 25)).cell? ⟨w2.heap.size, 2, none⟩ = some (.int .i64 i2) ∧ (w2.alloc (.cells #[.int .i64 k2, .int .i64 a2, .int .i64 i2, .slice o2 l2.length p2] 25)).cell? ⟨w2.heap.size, 3, none⟩ = some (.slice o2 l2.length p2) := ⟨by go_simp, by go_simp, by go_simp, by go_simp⟩
    have C2 := Lib.hid C2
    have B2 := Lib.hid (dupCells hA (dupCells hb2 B1.out))
    have hz2 := Lib.hid (bthen (bthen hz1.out hb2) hA)
    have hx2 := Lib.hid ((hx1.out.below hb2).below hA)
    have hT2 := Lib.hid ((hT1.out.under hb2).under hA)
    have hM2 := Lib.hid (hM2.under hA)
    have hnlt := Nat.lt_of_lt_of_le (cell?_lt B1.out.1) hb2.size
    clear hTe hp hp2 hb2 hx1 hT1 B1 hA
    obtain ⟨m0, m1, m2, m3⟩ := dupCells (Below.refl _ _) B2.out
    go_wp2_with fail
    refine (piled_any W H oi items ci (.mk k a i kids) k a i oa kids.length cap _ hm hx2.out hT2.out).mono ?_
    rw [HP.out]
    rintro e w3 ⟨hb3, kb, hkb, rfl, hwa⟩
    have hz3 := Lib.hid (bthen hz2.out hb3)
    have hT3 := Lib.hid (hT2.out.under hb3)
    have hM3 := Lib.hid (hM2.out.under hb3)
    have C3 := Lib.hid (dupCells hb3 C2.out)
    have B3 := Lib.hid (dupCells hb3 B2.out)
    have hS : Hid (∀ w', Below w3.heap.size w3 w' → (Below w3.heap.size w3 w' ∧ w'.cell? ⟨w.heap.size, 0, none⟩ = some (.int .i64 k) ∧ w'.cell? ⟨w.heap.size, 1, none⟩ = some (.int .i64 a) ∧ w'.cell? ⟨w.heap.size, 2, none⟩ = some (.int .i64 i) ∧ w'.cell? ⟨w.heap.size, 3, none⟩ = some (.slice oa kids.length cap) ∧ w'.cell? ⟨w2.heap.size, 0, none⟩ = some (.int .i64 k2) ∧ w'.cell? ⟨w2.heap.size, 1, none⟩ = some (.int .i64 a2) ∧ w'.cell? ⟨w2.heap.size, 2, none⟩ = some (.int .i64 i2) ∧ w'.cell? ⟨w2.heap.size, 3, none⟩ = some (.slice o2 l2.length p2))) := fun w' hb => ⟨hb, keepCell hb B3.out.1, keepCell hb B3.out.2.1, keepCell hb B3.out.2.2.1, keepCell hb B3.out.2.2.2, keepCell hb C3.out.1, keepCell hb C3.out.2.1, keepCell hb C3.out.2.2.1, keepCell hb C3.out.2.2.2⟩
    clear hwa m0 m1 m2 m3 hb3 B2 C2 hx2 hT2 hM2 hz2 hkb
    simp only [Res.code]
    go_upto_region 7 with (fail)
    go_region_held3 (fun w' => Below w3.heap.size w3 w' ∧ w'.cell? ⟨w.heap.size, 0, none⟩ = some (.int .i64 k) ∧ w'.cell? ⟨w.heap.size, 1, none⟩ = some (.int .i64 a) ∧ w'.cell? ⟨w.heap.size, 2, none⟩ = some (.int .i64 i) ∧ w'.cell? ⟨w.heap.size, 3, none⟩ = some (.slice oa kids.length cap) ∧ w'.cell? ⟨w2.heap.size, 0, none⟩ = some (.int .i64 k2) ∧ w'.cell? ⟨w2.heap.size, 1, none⟩ = some (.int .i64 a2) ∧ w'.cell? ⟨w2.heap.size, 2, none⟩ = some (.int .i64 i2) ∧ w'.cell? ⟨w2.heap.size, 3, none⟩ = some (.slice o2 l2.length p2))
      ((refine hS.out _ ?_; go_grown))
      (first | fail | (go_simp; go_at_call 18; (with_reducible refine (mirrored_any sides 80 k a i kids oa cap W H _ hok.out hsz.out (hT3.out.under (And.left (by assumption)))).mono ?_); rintro e w5 ⟨hb5, k5, a5, i5, l5, o5, p5, hTe5, rfl, hT5⟩; have hz5 : Below w3.heap.size w3 w5 := bthen (And.left (by assumption)) hb5; have hq := HE.out.symm.trans hTe5; simp only [Tree.mk.injEq] at hq; obtain ⟨rfl, rfl, rfl, rfl⟩ := hq; rw [HE.out] at hT5; have hT6 := Lib.hid hT5.toAt; clear hTe5 hb5 hT5) | (go_simp; go_at_call 17; (with_reducible refine (same_any 80 k2 a2 i2 l2 o2 p2 o5 p5 _ hok2.out (hM3.out.under (And.left (by assumption))) (hT6.out.under (by go_grown))).mono ?_); rintro e w6 ⟨rfl, hb6⟩; have hz6 : Below w3.heap.size w3 w6 := bthen (And.left (by assumption)) hb6; clear hb6))
    all_goals
      go_wp2
      go_ret
      exact ⟨rfl, bthen hz3.out (by go_grown)⟩
end Go.Proofs.Ythalimgejohffaa
