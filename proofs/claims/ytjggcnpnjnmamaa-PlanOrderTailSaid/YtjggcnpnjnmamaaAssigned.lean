/-
  The reference's Assigned: its walk. Own text.
-/
import Derived.Test.YtjggcnpnjnmamaaAsgV
import Derived.Test.YtjggcnpnjnmamaaVerLaw
import Derived.Deep.RegionHeld3
import Derived.Deep.DeepCutAuto
namespace Go.Proofs.Ytjggcnpnjnmamaa
open Go.RowKit
set_option linter.unusedVariables false
/-- Returns the least cost of the last f rows; the marks are as they were. -/
def RetAsg (rows : List (List Int)) (N m f gd : Nat) (used : Nat → Bool) (w : World) (e : Ending) (w' : World) : Prop := e = .returned (.int .i64 (asg rows N m f used)) ∧ Below gd w w' ∧ FTab Value.bool w' gd m used
theorem useC_back {used : Nat → Bool} {q : Nat} (h : used q = false) (j : Nat) : (if j = q then false else useC used q j) = used j := by
  unfold useC
  by_cases e : j = q
  · rw [if_pos e, e, h]
  · rw [if_neg e, if_neg e]
set_option maxHeartbeats 4000000 in
theorem assigned_any (b off cap : Nat) (rows : List (List Int)) (N m gd : Nat) (w0 : World) (hNN : N = rows.length) (hG : GoodCosts rows m) (hx : Rows1 w0 1 encInt (some ⟨b, off, none⟩) rows) (hgd : w0.heap.size ≤ gd) :
    ∀ (f : Nat) (used : Nat → Bool) (i : Nat) (w : World), i + f = N → f ≤ freeN used m → Below w0.heap.size w0 w → FTab Value.bool w gd m used →
    Calls Try.prog 17 #[.slice (some ⟨b, off, none⟩) N cap, .int .i64 i, .slice (some ⟨gd, 0, none⟩) m m] w (RetAsg rows N m f gd used w) := by
  have hm12 := hG.n12
  have hrn := hG.rn
  rw [← hNN] at hrn
  have HX := Lib.hid hx
  have HG := Lib.hid hG
  have HNN := Lib.hid hNN
  clear hx hG hNN
  intro f
  induction f with
  | zero =>
    intro used i w hi hf hb ht
    have HT := Lib.hid ht
    have h1 : ((i : Int) == (N : Int)) = true := by simp; omega
    clear ht hb hi
    go_enter Try.func17, Try.ntmps17
    go_wp2
    go_ret
    exact ⟨rfl, Below.refl _ _, HT.out⟩
  | succ f ih =>
    intro used i w hi hf hb ht
    have HT := Lib.hid ht
    have HB := Lib.hid hb
    have HIH := Lib.hid ih
    have HF := Lib.hid hf
    have h1 : ((i : Int) == (N : Int)) = false := by simp; omega
    have hiN : i < N := by omega
    have hNb : N ≤ 12 := by omega
    have HE : Hid (asg rows N m (f + 1) used = asgTo used (fun j => cOf rows (i + 1) (j + 1) + asg rows N m f (useC used j)) m) := by
      show _ = _
      have e : N - (f + 1) = i := by omega
      simp only [asg, e]
    have HI := Lib.hid hi
    have hf11 : f ≤ 11 := by omega
    clear ht hb ih hi hf
    go_enter Try.func17, Try.ntmps17
    go_wp2
    go_loopw [7, 16] (fun s7 s16 wr => ∃ q : Nat, q ≤ m ∧ s16 = .int .i64 q ∧ s7 = .int .i64 (asgTo used (fun j => cOf rows (i + 1) (j + 1) + asg rows N m f (useC used j)) q) ∧ Hid (Below gd w wr ∧ FTab Value.bool wr gd m used)) (fun _ s16 _ => m - (intOf s16).toNat)
    case atStart => exact ⟨0, by omega, rfl, rfl, Lib.hid ⟨Below.refl _ _, HT.out⟩⟩
    case round =>
      obtain ⟨q, hq, rfl, rfl, HW⟩ := hrel
      by_cases hlt : q < m
      · have ku := HW.out.2.at' q hlt
        have zu := HW.out.2.fz q
        by_cases hu : used q = true
        · have HS : Hid (asgTo used (fun j => cOf rows (i + 1) (j + 1) + asg rows N m f (useC used j)) (q + 1) = asgTo used (fun j => cOf rows (i + 1) (j + 1) + asg rows N m f (useC used j)) q) := by show _ = _; simp only [asgTo]; rw [if_pos hu]
          rw [hu] at ku
          clear hu
          go_wp2
          go_roundw
          case rel => exact ⟨q + 1, by omega, by go_num, by rw [HS.out], HW⟩
          case measure => simp [intOf]; omega
        · have hu2 : used q = false := by simpa using hu
          have HU : Hid (used q = false) := hu2
          obtain ⟨X, hX⟩ : ∃ X, X = cOf rows (i + 1) (q + 1) := ⟨_, rfl⟩
          obtain ⟨R, hR⟩ : ∃ R, R = asg rows N m f (useC used q) := ⟨_, rfl⟩
          obtain ⟨A, hA⟩ : ∃ A, A = asgTo used (fun j => cOf rows (i + 1) (j + 1) + asg rows N m f (useC used j)) q := ⟨_, rfl⟩
          have hfree : f ≤ freeN (useC used q) m := by have := freeN_use hu2 hlt; have := HF.out; omega
          have hrb := asg_bd (N := N) HG.out.c hfree
          have hcx := HG.out.c (i + 1) (q + 1)
          rw [← hR] at hrb
          rw [← hX] at hcx
          have hA2 : -1 ≤ A ∧ A ≤ 13631488 := by
            rw [hA]
            exact asgTo_range (fun j hj hu => by
              have h := asg_bd (N := N) HG.out.c (f := f) (used := useC used j) (m := m) (by have := freeN_use hu (show j < m by omega); have := HF.out; omega)
              have h2 := HG.out.c (i + 1) (j + 1)
              omega) (by omega)
          have HS : Hid (asgTo used (fun j => cOf rows (i + 1) (j + 1) + asg rows N m f (useC used j)) (q + 1) = if A < 0 ∨ X + R < A then X + R else A) := by
            show _ = _
            simp only [asgTo]
            rw [if_neg hu, ← hA, ← hX, ← hR]
          have HW1 : Hid (Below gd w (wr.setCell ⟨gd, q, none⟩ (.bool true)) ∧ FTab Value.bool (wr.setCell ⟨gd, q, none⟩ (.bool true)) gd m (useC used q)) := ⟨HW.out.1.setCell (p := ⟨gd, q, none⟩) (Nat.le_refl _) _, (HW.out.2.set hlt true).congr fun j _ => rfl⟩
          have HBw : Hid (Below w0.heap.size w0 (wr.setCell ⟨gd, q, none⟩ (.bool true))) := HB.out.trans (HW1.out.1.mono hgd)
          obtain ⟨bk, offk, capk, kc1, kc2, lb1, lb2⟩ := costCell2 HX.out HG.out HBw.out (r := i) (q := q) (by rw [← HNN.out]; exact hiN) hlt
          rw [← hX] at kc2
          rw [← hA]
          have HCL : Hid (∀ w', Below gd (wr.setCell ⟨gd, q, none⟩ (.bool true)) w' → FTab Value.bool w' gd m (useC used q) → Calls Try.prog 17 #[.slice (some ⟨b, off, none⟩) N cap, .int .i64 ((i : Int) + 1), .slice (some ⟨gd, 0, none⟩) m m] w' fun e w'' => e = .returned (.int .i64 R) ∧ Below gd w' w'' ∧ FTab Value.bool w'' gd m (useC used q)) := by
            intro w' hb' ht'
            have h := HIH.out (useC used q) (i + 1) w' (by have := HI.out; omega) hfree (HBw.out.trans (hb'.mono hgd)) ht'
            unfold RetAsg at h
            rw [← hR] at h
            exact h
          rw [hu2] at ku
          have HKK : Hid (∀ w', Below gd (wr.setCell ⟨gd, q, none⟩ (.bool true)) w' → w'.cell? ⟨b, off + i, none⟩ = some (.slice (some ⟨bk, offk, none⟩) m capk) ∧ w'.cell? ⟨bk, offk + q, none⟩ = some (.int .i64 X)) := by
            intro w' hb'
            exact ⟨by rw [hb'.cell (p := ⟨b, off + i, none⟩) (by show b < gd; omega)]; exact kc1, by rw [hb'.cell (p := ⟨bk, offk + q, none⟩) (by show bk < gd; omega)]; exact kc2⟩
          have i1 : (q : Int) < (m : Int) := by omega
          have i2 : (i : Int) < (N : Int) := by omega
          have g1 : IntKind.i64.wrap ((i : Int) + 1) = (i : Int) + 1 := IntWalk.i64_in _ (by omega)
          have g2 : IntKind.i64.wrap (X + R) = X + R := IntWalk.i64_in _ (by omega)
          have HX2 := Lib.hid hX
          clear hX hR hA hu hu2 hfree
          go_upto_region 9 with fail
          generalize wr.setCell ⟨gd, q, none⟩ (.bool true) = w1 at *
          have hS : Hid (∀ w', Below gd w1 w' → (Below gd w1 w' ∧ w'.cell? ⟨b, off + i, none⟩ = some (.slice (some ⟨bk, offk, none⟩) m capk) ∧ w'.cell? ⟨bk, offk + q, none⟩ = some (.int .i64 X))) := fun w' hb' => ⟨hb', (HKK.out w' hb').1, (HKK.out w' hb').2⟩
          go_cut [9] (fun s9 wx => s9 = .int .i64 (X + R) ∧ Hid (Below gd w1 wx ∧ FTab Value.bool wx gd m (useC used q)))
          case first =>
            go_region_held3 (fun w' => Below gd w1 w' ∧ w'.cell? ⟨b, off + i, none⟩ = some (.slice (some ⟨bk, offk, none⟩) m capk) ∧ w'.cell? ⟨bk, offk + q, none⟩ = some (.int .i64 X))
              ((refine hS.out _ ?_; go_grown))
              (first | fail | (go_simp; go_at_call 17; (with_reducible refine (HCL.out _ (And.left (by assumption)) (by first | exact HW1.out.2 | exact HW1.out.2.drew | exact HW1.out.2.drewN _)).mono ?_); rintro e w5 ⟨rfl, hb5, ht5⟩; have hz5 : Below gd w1 w5 := Below.trans (And.left (by assumption)) hb5; have HT5 := Lib.hid ht5; clear ht5 hb5))
            all_goals
              go_wp2_with fail
              go_meet
              exact ⟨rfl, Lib.hid ⟨by first | exact hz5 | exact hz5.drew | exact bdrewN hz5 _, by first | exact HT5.out | exact HT5.out.drew | exact HT5.out.drewN _⟩⟩
          case rest =>
            obtain ⟨rfl, HZ⟩ := hcut
            have kq : wc.cell? ⟨gd, q, none⟩ = some (.bool true) := by rw [HZ.out.2.at' q hlt]; unfold useC; rw [if_pos rfl]
            have zq := HZ.out.2.fz q
            have HWn : Hid (Below gd w (wc.setCell ⟨gd, q, none⟩ (.bool false)) ∧ FTab Value.bool (wc.setCell ⟨gd, q, none⟩ (.bool false)) gd m used) :=
              ⟨(HW1.out.1.trans HZ.out.1).setCell (p := ⟨gd, q, none⟩) (Nat.le_refl _) _, (HZ.out.2.set hlt false).congr fun j _ => useC_back HU.out j⟩
            by_cases hA0 : A < 0
            · have HN : Hid (asgTo used (fun j => cOf rows (i + 1) (j + 1) + asg rows N m f (useC used j)) (q + 1) = X + R) := by rw [HS.out]; exact if_pos (.inl hA0)
              go_wp2
              go_roundw
              case rel => exact ⟨q + 1, by omega, by go_num, by rw [HN.out], HWn⟩
              case measure => simp [intOf]; omega
            · by_cases hl2 : X + R < A
              · have HN : Hid (asgTo used (fun j => cOf rows (i + 1) (j + 1) + asg rows N m f (useC used j)) (q + 1) = X + R) := by rw [HS.out]; exact if_pos (.inr hl2)
                go_wp2
                go_roundw
                case rel => exact ⟨q + 1, by omega, by go_num, by rw [HN.out], HWn⟩
                case measure => simp [intOf]; omega
              · have HN : Hid (asgTo used (fun j => cOf rows (i + 1) (j + 1) + asg rows N m f (useC used j)) (q + 1) = A) := by rw [HS.out]; exact if_neg (by omega)
                go_wp2
                go_roundw
                case rel => exact ⟨q + 1, by omega, by go_num, by rw [HN.out], HWn⟩
                case measure => simp [intOf]; omega
      · obtain rfl : m = q := by omega
        rw [← HE.out]
        go_wp2
        go_ret
        exact ⟨rfl, HW.out.1, HW.out.2⟩
end Go.Proofs.Ytjggcnpnjnmamaa
