/-
  slices.Reverse of ints: its walk. Own text.
-/
import Derived.Test.YtjggcnpnjnmamaaRows
import Derived.Test.YtjggcnpnjnmamaaMade
import Derived.RegionTactic
import Derived.BigRegion
import Derived.Handy
namespace Go.Proofs.Ytjggcnpnjnmamaa
open Go.RowKit
set_option linter.unusedVariables false
/-- An owned row of ints as a table. -/
theorem Own.ftab {w : World} {base : Nat} {e : TypeId} {v : Value} {xs : List Int} (h : Own w base e 1 encInt v xs) : (xs = [] ∧ v = .slice none 0 0) ∨ ∃ g cap, v = .slice (some ⟨g, 0, none⟩) xs.length cap ∧ base ≤ g ∧ FTab (Value.int .i64) w g xs.length (fun i => xs.getD i 0) := by
  rcases h.2 with ⟨hv, hn⟩ | ⟨g, cap, cur, hv, hbg, hg, hn, hm, hs, ht⟩
  · exact .inl ⟨List.eq_nil_of_length_eq_zero hn, hv⟩
  · refine .inr ⟨g, cap, hv, hbg, fun i hi => ?_, fun o => ?_⟩
    · obtain ⟨oa, cap2, hv2, _, hf⟩ := h.flat (fun _ => rfl)
      rw [hv] at hv2
      cases hv2
      obtain ⟨b, off, e1, hc⟩ := hf.int hi
      cases e1
      simp only [Nat.zero_add] at hc
      rw [hc]
      simp [List.getD_eq_getElem?_getD, hi]
    · unfold World.frozen?
      rw [hg]
      simp
/-- The table behind k rounds. -/
def revT (d k : Nat) (t : Nat → Int) (i : Nat) : Int := if i < k ∨ d - 1 - k < i then t (d - 1 - i) else t i
set_option maxHeartbeats 4000000 in
theorem reverse_tab (g d cap : Nat) (t : Nat → Int) (w : World) (h : FTab (Value.int .i64) w g d t) (hd : d ≤ maxLen) :
    Calls Try.prog 40 #[.slice (some ⟨g, 0, none⟩) d cap] w fun e w' => e = .returned (.tuple #[]) ∧ Below g w w' ∧ w'.heap.size = w.heap.size ∧ FTab (Value.int .i64) w' g d (fun i => t (d - 1 - i)) := by
  have hd9 : d ≤ 9223372036854775807 := by unfold maxLen at hd; omega
  have HT := Lib.hid h
  clear h hd
  by_cases h0 : d = 0
  · subst h0
    go_enter Try.func40, Try.ntmps40
    go_wp2
    go_rounds 1
    go_wp2
    go_returns
    exact ⟨rfl, Below.refl _ _, rfl, HT.out.congr fun i hi => absurd hi (by omega)⟩
  · obtain ⟨d1, hd1⟩ : ∃ d1 : Nat, d = d1 + 1 := ⟨d - 1, by omega⟩
    have HD := Lib.hid hd1
    have g1 : IntKind.i64.wrap ((d : Int) - 1) = (d1 : Int) := by rw [IntWalk.i64_in _ (by omega)]; omega
    have H0 : Hid (FTab (Value.int .i64) w g d (revT d 0 t)) := HT.out.congr fun i hi => by unfold revT; rw [if_neg (by omega)]
    clear hd1
    go_enter Try.func40, Try.ntmps40
    go_wp2
    go_loopw [2, 3] (fun s2 s3 wr => ∃ k m : Nat, k + m = d1 ∧ s2 = .int .i64 k ∧ s3 = .int .i64 m ∧ Hid (Below g w wr ∧ wr.heap.size = w.heap.size ∧ FTab (Value.int .i64) wr g d (revT d k t))) (fun s2 _ _ => d - (intOf s2).toNat)
    case atStart => exact ⟨0, d1, by omega, rfl, rfl, Lib.hid ⟨Below.refl _ _, rfl, H0.out⟩⟩
    case round =>
      obtain ⟨k, m, hkm, rfl, rfl, HW⟩ := hrel
      have hdk : k < d := by have := HD.out; omega
      have hdm : m < d := by have := HD.out; omega
      have hm9 : m ≤ 9223372036854775807 := by omega
      have hk9 : k ≤ 9223372036854775807 := by omega
      by_cases hlt : (k : Int) < (m : Int)
      · have ck : wr.cell? ⟨g, k, none⟩ = some (.int .i64 (t k)) := by
          rw [HW.out.2.2.at' k hdk]; unfold revT; have := HD.out; rw [if_neg (by omega)]
        have cm : wr.cell? ⟨g, m, none⟩ = some (.int .i64 (t m)) := by
          rw [HW.out.2.2.at' m hdm]; unfold revT; have := HD.out; rw [if_neg (by omega)]
        have zk := HW.out.2.2.fz k
        have zm := HW.out.2.2.fz m
        have HN : Hid (Below g w ((wr.setCell ⟨g, k, none⟩ (.int .i64 (t m))).setCell ⟨g, m, none⟩ (.int .i64 (t k))) ∧ ((wr.setCell ⟨g, k, none⟩ (.int .i64 (t m))).setCell ⟨g, m, none⟩ (.int .i64 (t k))).heap.size = w.heap.size ∧ FTab (Value.int .i64) ((wr.setCell ⟨g, k, none⟩ (.int .i64 (t m))).setCell ⟨g, m, none⟩ (.int .i64 (t k))) g d (revT d (k + 1) t)) := by
          refine ⟨(HW.out.1.setCell (p := ⟨g, k, none⟩) (Nat.le_refl _) _).setCell (p := ⟨g, m, none⟩) (Nat.le_refl _) _, by simp [HW.out.2.1], ((HW.out.2.2.set hdk (t m)).set hdm (t k)).congr fun i hi => ?_⟩
          have hd := HD.out
          unfold revT
          by_cases e1 : i = m
          · subst e1
            rw [if_pos rfl, if_pos (by omega), show d - 1 - i = k by omega]
          · rw [if_neg e1]
            by_cases e2 : i = k
            · subst e2
              rw [if_pos rfl, if_pos (by omega), show d - 1 - i = m by omega]
            · rw [if_neg e2]
              by_cases e3 : i < k ∨ d - 1 - k < i
              · rw [if_pos e3, if_pos (by omega)]
              · rw [if_neg e3, if_neg (by omega)]
        have dk : (k : Int) < (d : Int) := by omega
        have dm : (m : Int) < (d : Int) := by omega
        have nkm : k ≠ m := by omega
        generalize t k = tk at *
        generalize t m = tm at *
        go_wp2
        go_region
        all_goals
          go_wp2
          go_roundw
          case rel => exact ⟨k + 1, m - 1, by omega, by go_num, by rw [show ((m - 1 : Nat) : Int) = (m : Int) - 1 by omega], ⟨by first | exact HN.out.1 | exact HN.out.1.drew, HN.out.2.1, by first | exact HN.out.2.2 | exact HN.out.2.2.drew⟩⟩
          case measure => simp [intOf]; omega
      · have HE : Hid (FTab (Value.int .i64) wr g d (fun i => t (d - 1 - i))) := HW.out.2.2.congr fun i hi => by
          have := HD.out
          unfold revT
          by_cases e3 : i < k ∨ d - 1 - k < i
          · rw [if_pos e3]
          · rw [if_neg e3, show d - 1 - i = i by omega]
        go_wp2
        go_returns
        exact ⟨rfl, HW.out.1, HW.out.2.1, HE.out⟩
end Go.Proofs.Ytjggcnpnjnmamaa
