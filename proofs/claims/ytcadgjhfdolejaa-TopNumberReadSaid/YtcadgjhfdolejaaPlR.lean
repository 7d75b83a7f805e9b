/-
  Decode on a number's widths, scaled, from either end. Own text.
-/
import Derived.Test.YtcadgjhfdolejaaPlD
namespace Go.Proofs.Ytcadgjhfdolejaa
open Go.RowKit
set_option linter.unusedVariables false
theorem dec_good (l : List UInt8) (hl : DigL l) (h1 : 1 ≤ l.length) (h20 : l.length ≤ 20) (U D : Int) (hU : 1 ≤ U) (n : Nat) (hn : n = (widV l).length) (us : Nat → Nat)
    (hus : ∀ i, i < n → (us i : Int) = U * wAt l i + (if i % 2 = 0 then D else -D)) (hb : ∀ i, i < n → 1 ≤ us i ∧ us i ≤ 1024) (u : Nat → Nat) (hu : (∀ i, i < n → u i = us i) ∨ (∀ i, i < n → u i = us (n - 1 - i)))
    (w : World) (g o c : Nat) (hc : n ≤ c) (hr : NRow w g o n (fun i => (u i : Int))) :
    Calls Try.prog 14 #[.slice (some ⟨g, o, none⟩) n c] w (RetTxt l w) := by
  have hs := symsV_len l h1 h20
  obtain ⟨m, hm⟩ : ∃ m, m = (symsV l).length + 3 := ⟨_, rfl⟩
  have hvl : (vsL l).length = m := by rw [vsL_len, hm]
  have hnm : n = 6 * m + 1 := by rw [hn, widV_len, hvl]
  have hsix : ∀ j, j < m → SixW (fun i => us (6 * j + i)) U D (pAt (vsN l j).toNat) := fun j hj i hi => by
    show (us (6 * j + i) : Int) = _
    rw [hus _ (by omega), wAt_sym l (by omega) hi, show (6 * j + i) % 2 = i % 2 by omega]
  have hval : ∀ j, j < m → valV (fun i => us (6 * j + i)) = vsN l j ∧ 0 ≤ vsN l j ∧ vsN l j ≤ 102 := fun j hj => by
    have hbd := vsN_bd l hl j (by omega)
    refine ⟨?_, hbd⟩
    rw [val_sym (x := (vsN l j).toNat) (by omega) hU (hsix j hj)]
    omega
  have hu9 : ∀ i, i < n → 1 ≤ u i ∧ u i ≤ 1024 := fun i hi => by
    rcases hu with h | h
    · rw [h i hi]; exact hb i hi
    · rw [h i hi]; exact hb _ (by omega)
  have hcase : if valV u = 101 then ∀ i, i < n → us i = u i else ∀ i, i < n → us i = u (n - 1 - i) := by
    rcases hu with h | h
    · have h6 : SixW u U D (pAt 101) := fun i hi => by
        have e := hsix 0 (by omega) i hi
        rw [vsN_zero] at e
        rw [h i (by omega)]
        simpa using e
      have hv1 : valV u = 101 := val_sym (x := 101) (by omega) hU h6
      rw [if_pos hv1]
      exact fun i hi => (h i hi).symm
    · have h6 : SixW u U D endW := fun i hi => by
        rw [h i (by omega), hus _ (by omega)]
        by_cases e : i = 0
        · subst e
          rw [show n - 1 - 0 = 6 * m by omega, ← hvl, wAt_last]
          rw [if_pos (by omega), if_pos (by omega)]
          rfl
        · have e2 : n - 1 - i = 6 * (m - 1) + (6 - i) := by omega
          have hv : vsN l (m - 1) = 102 := by rw [show m - 1 = (symsV l).length + 2 by omega]; exact vsN_stop l
          rw [e2, wAt_sym l (by omega) (by omega), hv, show (6 * (m - 1) + (6 - i)) % 2 = i % 2 by omega]
          have e3 : endW i = pAt 102 (6 - i) := by
            match i, e with
            | i + 1, _ => rfl
          rw [e3]
          rfl
      rw [if_neg (val_end hU h6)]
      intro i hi
      rw [h _ (by omega), show n - 1 - (n - 1 - i) = i by omega]
  have hsum : sumV (fun i => vsN l (1 + i)) (m - 3) = vsN l (m - 2) := by
    rw [show m - 2 = (symsV l).length + 1 by omega, vsN_sum, show m - 3 = (symsV l).length by omega]
    unfold sumL sumV
    rw [sumK_congr _ (fun i hi => vsN_sym l i hi)]
  exact dec_ok g o n c m u us (vsN l) l hnm (by omega) (by omega) hc hu9 hcase hval (vsN_zero l) (by rw [show m - 1 = (symsV l).length + 2 by omega]; exact vsN_stop l) hsum
    (fun W g o c hr hc => digs_of l hl h1 h20 (m - 3) (by omega) W g o c hr hc) w hr
end Go.Proofs.Ytcadgjhfdolejaa
