/-
  Walks of package gang: up, need, Check, least, Need, Allot; of the reference's Places. Own text.
-/
import Derived.Test.YtimofofaeedcoaaGangV
import Derived.Test.YtimofofaeedcoaaRef
import Derived.Test.YtimofofaeedcoaaIn
import Derived.Test.YtimofofaeedcoaaRegion
import Derived.Test.YtimofofaeedcoaaNest
namespace Go.Proofs.Ytimofofaeedcoaa
open Go.RowKit
set_option linter.unusedVariables false
set_option maxHeartbeats 400000 in
theorem gup_any (a b : Int) (w : World) (h0 : 0 ≤ a) (h1 : a ≤ 1000000000000) (h2 : 1 ≤ b) (h3 : b ≤ 1000000000000) :
    Calls Try.prog 28 #[.int .i64 a, .int .i64 b] w fun e w' => e = .returned (.int .i64 (cl a b)) ∧ w = w' := by
  have E : Hid (cl a b = (a + b - 1) / b) := show cl a b = (a + b - 1) / b from rfl
  go_enter Try.func28, Try.ntmps28
  go_wp2
  go_ret
  exact ⟨by rw [E.out]; rfl, rfl⟩
set_option maxHeartbeats 400000 in
theorem need_any (oa : Option Addr) (xs : List Int) (cap : Nat) (r : Int) (w : World) (hm : xs.length ≤ 1000) (hx : Flat w 1 encInt oa xs) (hd : Demands xs) (h1 : 1 ≤ r) (h2 : r ≤ 1048576) :
    Calls Try.prog 27 #[.slice oa xs.length cap, .int .i64 r] w fun e w' => e = .returned (.int .i64 (needV xs r)) ∧ w = w' := by
  have HD := Lib.hid hd; clear hd
  go_enter Try.func27, Try.ntmps27
  go_wp2
  go_loop [5, 10] (fun n i => ∃ k : Nat, k ≤ xs.length ∧ i = .int .i64 k ∧ n = .int .i64 (needV (xs.take k) r)) (fun _ i => xs.length - (intOf i).toNat)
  case atStart => exact ⟨0, by omega, rfl, rfl⟩
  case round =>
    obtain ⟨k, hk, rfl, rfl⟩ := hrel
    by_cases hlt : k < xs.length
    · obtain ⟨b, off, rfl, hc1⟩ := hx.int hlt
      have hd := HD.out xs[k] (List.getElem_mem hlt)
      have hb := needV_bd (xs := xs.take k) (fun d hd => HD.out d (List.mem_of_mem_take hd)) h1
      have hlen : (xs.take k).length ≤ 1000 := by rw [List.length_take]; omega
      have hc := cl_bd hd.1 h1
      have E := Lib.hid (needV_take xs k hlt r)
      go_wp2_with (go_at_call 28; refine (gup_any _ _ _ (by omega) (by omega) (by omega) (by omega)).mono ?_; rintro e w' ⟨rfl, rfl⟩)
      go_round
      case rel => exact ⟨k + 1, by omega, by go_num, by rw [E.out]⟩
      case measure => simp [intOf]; omega
    · have E := Lib.hid (show xs.take k = xs from List.take_of_length_le (by omega))
      go_wp2
      go_ret
      exact ⟨by rw [E.out]; rfl, rfl⟩
set_option maxHeartbeats 1000000 in
theorem gcheck_any (oa : Option Addr) (xs : List Int) (cap : Nat) (s : Int) (w : World) (hm : xs.length ≤ maxLen) (hx : Flat w 1 encInt oa xs) :
    Calls Try.prog 13 #[.slice oa xs.length cap, .int .i64 s] w fun e w' => e = .returned (.int .i64 (gchk xs s)) ∧ w = w' := by
  have hm9 : xs.length ≤ 9223372036854775807 := by unfold maxLen at hm; omega
  by_cases hl : xs.length < 1 ∨ 12 < xs.length
  · have E : Hid (gchk xs s = 2) := if_pos hl
    rcases hl with hl | hl
    all_goals
      go_enter Try.func13, Try.ntmps13
      go_wp2
      go_ret
      exact ⟨by rw [E.out]; rfl, rfl⟩
  · have HL := Lib.hid hl
    have hl1 : 1 ≤ xs.length := by omega
    have hl2 : xs.length ≤ 12 := by omega
    clear hl
    go_enter Try.func13, Try.ntmps13
    go_wp2
    go_loop [17] (fun i => ∃ k : Nat, k ≤ xs.length ∧ i = .int .i64 k ∧ AllTo dOk xs k) (fun i => xs.length - (intOf i).toNat)
    case atStart => exact ⟨0, by omega, rfl, AllTo.zero _ _⟩
    case round =>
      obtain ⟨k, hk, rfl, hok⟩ := hrel
      by_cases hlt : k < xs.length
      · obtain ⟨b, off, rfl, hc1⟩ := hx.int hlt
        by_cases hs : dOk xs[k] = true
        · have hok' := hok.succ hlt hs
          obtain ⟨h1, h2⟩ := of_decide_eq_true hs
          go_wp2
          go_round
          case rel => exact ⟨k + 1, by omega, by go_num, hok'⟩
          case measure => simp [intOf]; omega
        · have hs0 : dOk xs[k] = false := by simpa using hs
          have h5 : ¬ (1 ≤ xs[k] ∧ xs[k] ≤ 1048576) := of_decide_eq_false hs0
          have E : Hid (gchk xs s = 3) := by unfold gchk; rw [if_neg HL.out, all_no hlt hs0]; rfl
          go_wp2
          all_goals
            go_ret
            exact ⟨by rw [E.out]; rfl, rfl⟩
      · have hall := hok.all (by omega)
        by_cases hsl : 1 ≤ s ∧ s ≤ 64
        · have E : Hid (gchk xs s = 0) := by unfold gchk; rw [if_neg HL.out, if_pos hall, if_pos hsl]; rfl
          obtain ⟨h1, h2⟩ := hsl
          clear hall
          go_wp2
          go_ret
          exact ⟨by rw [E.out]; rfl, rfl⟩
        · have E : Hid (gchk xs s = 3) := by unfold gchk; rw [if_neg HL.out, if_pos hall, if_neg hsl]; rfl
          clear hall
          go_wp2
          all_goals
            go_ret
            exact ⟨by rw [E.out]; rfl, rfl⟩
set_option maxHeartbeats 400000 in
theorem max_any (oa : Option Addr) (xs : List Int) (cap : Nat) (w : World) (hm : xs.length ≤ 1000) (h1 : 1 ≤ xs.length) (hx : Flat w 1 encInt oa xs) :
    Calls Try.prog 26 #[.slice oa xs.length cap] w fun e w' => e = .returned (.int .i64 (maxV xs)) ∧ w = w' := by
  obtain ⟨b, off, rfl, hc0⟩ := hx.int (i := 0) (by omega)
  have hc0 : w.cell? ⟨b, off, none⟩ = some (.int .i64 xs[0]) := hc0
  have E0 := Lib.hid (maxTo_one (xs := xs) (by omega))
  go_enter Try.func26, Try.ntmps26
  go_wp2
  go_loop [3, 4] (fun n i => ∃ k : Nat, 1 ≤ k ∧ k ≤ xs.length ∧ i = .int .i64 k ∧ n = .int .i64 (maxTo xs k)) (fun _ i => xs.length - (intOf i).toNat)
  case atStart => exact ⟨1, by omega, by omega, rfl, by rw [E0.out]⟩
  case round =>
    obtain ⟨k, hk1, hk, rfl, rfl⟩ := hrel
    by_cases hlt : k < xs.length
    · obtain ⟨b', off', e', hc1⟩ := hx.int hlt
      simp only [Option.some.injEq, Addr.mk.injEq] at e'
      obtain ⟨rfl, rfl, _⟩ := e'
      have E := Lib.hid (maxTo_succ hlt)
      by_cases hgt : maxTo xs k < xs[k]
      · have E2 := Lib.hid (Int.max_eq_right (Int.le_of_lt hgt))
        go_wp2
        go_round
        case rel => exact ⟨k + 1, by omega, by omega, by go_num, by rw [E.out, E2.out]⟩
        case measure => simp [intOf]; omega
      · have E2 := Lib.hid (Int.max_eq_left (Int.not_lt.1 hgt))
        go_wp2
        go_round
        case rel => exact ⟨k + 1, by omega, by omega, by go_num, by rw [E.out, E2.out]⟩
        case measure => simp [intOf]; omega
    · have E := Lib.hid (maxTo_all (xs := xs) (k := k) (by omega))
      go_wp2
      go_ret
      exact ⟨by rw [← E.out]; rfl, rfl⟩
set_option maxHeartbeats 1000000 in
theorem least_any (oa : Option Addr) (xs : List Int) (cap : Nat) (s : Int) (w : World) (hm : xs.length ≤ 1000) (h1 : 1 ≤ xs.length) (hx : Flat w 1 encInt oa xs) (hd : Demands xs) :
    Calls Try.prog 18 #[.slice oa xs.length cap, .int .i64 s] w fun e w' => e = .returned (.int .i64 (leastV xs s)) ∧ w = w' := by
  by_cases hs : s < xs.length
  · have E := Lib.hid (leastV_zero hs)
    go_enter Try.func18, Try.ntmps18
    go_wp2
    go_ret
    exact ⟨by rw [E.out]; rfl, rfl⟩
  · obtain ⟨hmx, hmem⟩ := maxV_spec h1
    have hmd := hd _ hmem
    have hmost : needV xs (maxV xs) ≤ s := by rw [needV_most hd hmd.1 hmx]; omega
    have HD := Lib.hid hd; clear hd hmx hmem
    have HS : Hid ((xs.length : Int) ≤ s) := by show _ ≤ _; omega
    go_enter Try.func18, Try.ntmps18
    go_wp2_with (go_at_call 26; refine (max_any _ _ _ _ hm h1 hx).mono ?_; rintro e w' ⟨rfl, rfl⟩)
    go_loop [5, 6] (fun l h => ∃ a b : Int, l = .int .i64 a ∧ h = .int .i64 b ∧ 1 ≤ a ∧ a ≤ b ∧ b ≤ 1048576 ∧ needV xs b ≤ s ∧ (a = 1 ∨ s < needV xs (a - 1))) (fun l h => (intOf h - intOf l).toNat)
    case atStart => exact ⟨1, maxV xs, rfl, rfl, by omega, by omega, by omega, hmost, .inl rfl⟩
    case round =>
      obtain ⟨a, b, rfl, rfl, ha, hab, hb, hnb, hna⟩ := hrel
      have HNA := Lib.hid hna; clear hna
      by_cases hgo : a < b
      · have hmid : a ≤ (a + b) / 2 ∧ (a + b) / 2 < b := by omega
        by_cases hn : needV xs ((a + b) / 2) ≤ s
        · go_wp2_with (go_at_call 27; refine (need_any _ _ _ _ _ hm hx HD.out (by omega) (by omega)).mono ?_; rintro e w' ⟨rfl, rfl⟩)
          go_round
          case rel => exact ⟨a, _, rfl, rfl, by omega, by omega, by omega, hn, HNA.out⟩
          case measure => simp [intOf]; omega
        · have hn2 : s < needV xs ((a + b) / 2 + 1 - 1) := by rw [show (a + b) / 2 + 1 - 1 = (a + b) / 2 by omega]; omega
          have HN2 := Lib.hid hn2; clear hn2
          go_wp2_with (go_at_call 27; refine (need_any _ _ _ _ _ hm hx HD.out (by omega) (by omega)).mono ?_; rintro e w' ⟨rfl, rfl⟩)
          go_round
          case rel => exact ⟨_, b, rfl, rfl, by omega, by omega, by omega, hnb, .inr HN2.out⟩
          case measure => simp [intOf]; omega
      · have hab2 : a = b := by omega
        have E : Hid (leastV xs s = a) := leastV_eq HD.out HS.out ⟨ha, by rw [hab2]; exact hnb, HNA.out⟩
        clear hab2
        go_wp2
        go_ret
        exact ⟨by rw [E.out]; rfl, rfl⟩
end Go.Proofs.Ytimofofaeedcoaa
