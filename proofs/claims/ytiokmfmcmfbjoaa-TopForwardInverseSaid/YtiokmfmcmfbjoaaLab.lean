/-
  The walks of refspace.Check and profile.Tones. Own text.
-/
import Derived.Test.YtiokmfmcmfbjoaaCurveW
namespace Go.Proofs.Ytiokmfmcmfbjoaa
open Go.RowKit
set_option linter.unusedVariables false
def OkLab (L A B : Int) : Prop := (0 ≤ L ∧ L ≤ 10000) ∧ (-12800 ≤ A ∧ A ≤ 12800) ∧ (-12800 ≤ B ∧ B ≤ 12800)
set_option maxHeartbeats 1000000 in
theorem lcheck_any (L A B : Int) (w : World) : Calls Try.prog 14 #[.agg #[.int .i64 L, .int .i64 A, .int .i64 B]] w (RetChk (OkLab L A B) w) := by
  have hb0 := balloc (Below.refl _ w) (.cells #[.int .i64 L, .int .i64 A, .int .i64 B] 33)
  have HB := Lib.hid hb0; clear hb0
  by_cases hok : OkLab L A B
  · have HO := Lib.hid hok
    unfold OkLab at hok
    obtain ⟨⟨a1, a2⟩, ⟨a3, a4⟩, ⟨a5, a6⟩⟩ := hok
    go_enter Try.func14, Try.ntmps14
    go_wp2
    go_ret
    exact RetChk.yes HO.out HB.out
  · have HO := Lib.hid hok
    unfold OkLab at hok
    go_enter Try.func14, Try.ntmps14
    go_wp2
    all_goals
      first
        | (go_ret; exact RetChk.no (by omega) HO.out HB.out)
        | (exfalso; omega)
def OkTones (l : List Int) (n : Int) : Prop := (l.length : Int) = n ∧ ∀ i (h : i < l.length), 0 ≤ l[i] ∧ l[i] ≤ 255
set_option maxHeartbeats 1000000 in
theorem tones_any (oa : Option Addr) (l : List Int) (cap : Nat) (n : Int) (w : World) (hm : l.length ≤ maxLen) (hx : Flat w 1 encInt oa l) :
    Calls Try.prog 15 #[.slice oa l.length cap, .int .i64 n] w (RetChk (OkTones l n) w) := by
  have hm9 : l.length ≤ 9223372036854775807 := by unfold maxLen at hm; omega
  by_cases hn : (l.length : Int) = n
  · subst hn
    go_enter Try.func15, Try.ntmps15
    go_wp2
    go_loop [13] (fun i => ∃ k : Nat, k ≤ l.length ∧ i = .int .i64 k ∧ Hid (∀ j (h : j < l.length), j < k → 0 ≤ l[j] ∧ l[j] ≤ 255)) (fun i => l.length - (intOf i).toNat)
    case atStart => exact ⟨0, by omega, rfl, Lib.hid (fun j h hj => by omega)⟩
    case round =>
      obtain ⟨k, hk, rfl, HA⟩ := hrel
      by_cases hlt : k < l.length
      · obtain ⟨b, off, rfl, e1⟩ := hx.int hlt
        by_cases hok : 0 ≤ l[k] ∧ l[k] ≤ 255
        · have HN : Hid (∀ j (h : j < l.length), j < k + 1 → 0 ≤ l[j] ∧ l[j] ≤ 255) := fun j h hj => by
            by_cases e : j = k
            · subst e; exact hok
            · exact HA.out j h (by omega)
          go_wp2
          go_round
          case rel => exact ⟨k + 1, by omega, by go_num, HN⟩
          case measure => simp [intOf]; omega
        · have hno : Hid (¬ OkTones l (l.length : Int)) := fun h => hok (h.2 k hlt)
          go_wp2
          all_goals
            first
              | (go_ret; exact RetChk.no (by omega) hno.out (Below.refl _ _))
              | (exfalso; omega)
      · have hyes : Hid (OkTones l (l.length : Int)) := ⟨rfl, fun j h => HA.out j h (by omega)⟩
        go_wp2
        go_ret
        exact RetChk.yes hyes.out (Below.refl _ _)
  · have hno : Hid (¬ OkTones l n) := fun h => hn h.1
    have t1 : ((l.length : Int) != n) = true := by simpa using hn
    clear hn
    go_enter Try.func15, Try.ntmps15
    go_wp2
    go_ret
    exact RetChk.no (by omega) hno.out (Below.refl _ _)
end Go.Proofs.Ytiokmfmcmfbjoaa
