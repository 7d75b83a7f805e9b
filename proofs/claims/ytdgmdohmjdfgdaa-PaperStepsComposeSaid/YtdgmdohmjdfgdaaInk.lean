/-
  Walks of the scalar functions of package paper and of the laws on ink. Own text.
-/
import Derived.Test.YtdgmdohmjdfgdaaRows
import Derived.WalkKit
import Derived.WalkSpells
import Derived.WalkLawsBesides
import Derived.Lib.Hide
import Derived.Test.YtdgmdohmjdfgdaaNum
namespace Go.Proofs.Ytdgmdohmjdfgdaa
open Go.RowKit
set_option linter.unusedVariables false
set_option maxHeartbeats 400000 in
theorem up_any (a b : Int) (w : World) (h0 : 0 ≤ a) (h1 : a ≤ 2000000000000000000) (h2 : 1 ≤ b) (h3 : b ≤ 1000000000) :
    Calls Try.prog 23 #[.int .i64 a, .int .i64 b] w fun e w' => e = .returned (.int .i64 ((a + b - 1) / b)) ∧ w = w' := by
  go_enter Try.func23, Try.ntmps23
  go_wp2
  go_ret
  exact ⟨rfl, rfl⟩
set_option maxHeartbeats 400000 in
theorem within_any (x lo hi : Int) (w : World) (h0 : -1000000000000000000 ≤ lo) (h1 : lo ≤ hi) (h2 : hi ≤ 1000000000000000000) :
    Calls Try.prog 10 #[.int .i64 x, .int .i64 lo, .int .i64 hi] w fun e w' => e = .returned (.int .i64 (wi x lo hi)) ∧ w = w' := by
  have hb := tmod_bd x (hi - lo + 1) (by omega)
  have hr := Int.emod_nonneg (x.tmod (hi - lo + 1)) (b := (hi - lo + 1)) (by omega)
  have hr2 := Int.emod_lt_of_pos (x.tmod (hi - lo + 1)) (b := (hi - lo + 1)) (by omega)
  go_enter Try.func10, Try.ntmps10
  go_wp2
  go_ret
  exact ⟨rfl, rfl⟩
def inkV (a s m : Int) : Int := (a * s * m + 255000000 - 1) / 255000000
set_option maxHeartbeats 400000 in
theorem ink_ok (a s m : Int) (w : World) (h0 : 0 ≤ a) (h1 : a ≤ 267386880) (h2 : 0 ≤ s) (h3 : s ≤ 1048576) (h4 : 0 ≤ m) (h5 : m ≤ 1024) :
    Calls Try.prog 9 #[.int .i64 a, .int .i64 s, .int .i64 m] w fun e w' => e = .returned (.tuple #[.int .i64 (inkV a s m), .int .i64 0]) ∧ w = w' := by
  have b1 := mul_bd a s _ _ h0 h1 h2 h3
  have b2 := mul_bd (a * s) m _ _ b1.1 b1.2 h4 h5
  go_enter Try.func9, Try.ntmps9
  go_wp2_with (go_at_call 23; refine (up_any _ _ _ (by omega) (by omega) (by omega) (by omega)).mono ?_; rintro e w' ⟨rfl, rfl⟩)
  go_ret2
  exact ⟨rfl, rfl⟩
theorem ink_adds (a s t m : Int) (h0 : 0 ≤ a) (h1 : a ≤ 267386880) (h2 : 0 ≤ s) (h3 : s ≤ 524288) (h2' : 0 ≤ t) (h3' : t ≤ 524288) (h4 : 0 ≤ m) (h5 : m ≤ 1024) :
    (0 ≤ inkV a s m ∧ inkV a s m ≤ 1000000000000) ∧ (0 ≤ inkV a t m ∧ inkV a t m ≤ 1000000000000) ∧ inkV a (s + t) m ≤ inkV a s m + inkV a t m ∧ inkV a s m + inkV a t m - 1 ≤ inkV a (s + t) m ∧ inkV a s m ≤ inkV a (s + t) m ∧ inkV a t m ≤ inkV a (s + t) m := by
  have b1 := mul_bd a s _ _ h0 h1 h2 h3
  have b2 := mul_bd (a * s) m _ _ b1.1 b1.2 h4 h5
  have c1 := mul_bd a t _ _ h0 h1 h2' h3'
  have c2 := mul_bd (a * t) m _ _ c1.1 c1.2 h4 h5
  have e : a * (s + t) * m = a * s * m + a * t * m := by rw [Int.mul_add, Int.add_mul]
  unfold inkV
  rw [e]
  generalize a * s * m = p at *
  generalize a * t * m = q at *
  omega
theorem ink_div (p : Int) (h : 0 ≤ p) : p ≤ (p + 255000000 - 1) / 255000000 * 255000000 ∧ ((p + 255000000 - 1) / 255000000 - 1) * 255000000 < p := by omega
set_option maxHeartbeats 400000 in
theorem ink_no (a s m : Int) (w : World) (h : ¬ (0 ≤ a ∧ a ≤ 267386880 ∧ 0 ≤ s ∧ s ≤ 1048576 ∧ 0 ≤ m ∧ m ≤ 1024)) :
    Calls Try.prog 9 #[.int .i64 a, .int .i64 s, .int .i64 m] w fun e w' => e = .returned (.tuple #[.int .i64 0, .int .i64 3]) ∧ w = w' := by
  by_cases h1 : 0 ≤ a
  · by_cases h2 : a ≤ 267386880
    · by_cases h3 : 0 ≤ s
      · by_cases h4 : s ≤ 1048576
        · by_cases h5 : 0 ≤ m
          · have h6 : ¬ m ≤ 1024 := by omega
            clear h
            go_enter Try.func9, Try.ntmps9
            go_wp2
            go_ret2
            exact ⟨rfl, rfl⟩
          · clear h
            go_enter Try.func9, Try.ntmps9
            go_wp2
            go_ret2
            exact ⟨rfl, rfl⟩
        · clear h
          go_enter Try.func9, Try.ntmps9
          go_wp2
          go_ret2
          exact ⟨rfl, rfl⟩
      · clear h
        go_enter Try.func9, Try.ntmps9
        go_wp2
        go_ret2
        exact ⟨rfl, rfl⟩
    · clear h
      go_enter Try.func9, Try.ntmps9
      go_wp2
      go_ret2
      exact ⟨rfl, rfl⟩
  · clear h
    go_enter Try.func9, Try.ntmps9
    go_wp2
    go_ret2
    exact ⟨rfl, rfl⟩
set_option maxHeartbeats 400000 in
theorem inkAdds_any (a : Int) (ha : -9223372036854775808 ≤ a ∧ a ≤ 9223372036854775807) (s : Int) (hs : -9223372036854775808 ≤ s ∧ s ≤ 9223372036854775807) (t : Int) (ht : -9223372036854775808 ≤ t ∧ t ≤ 9223372036854775807) (m : Int) (hm : -9223372036854775808 ≤ m ∧ m ≤ 9223372036854775807) (w : World) :
    Calls Try.prog 3 #[.int .i64 a, .int .i64 s, .int .i64 t, .int .i64 m] w fun e w' => e = .returned (.bool true) ∧ Below w.heap.size w w' := by
  have h1 := wi_bd a 0 267386880 (by omega)
  have h2 := wi_bd s 0 524288 (by omega)
  have h3 := wi_bd t 0 524288 (by omega)
  have h4 := wi_bd m 0 1024 (by omega)
  have h5 := ink_adds _ _ _ _ h1.1 h1.2 h2.1 h2.2 h3.1 h3.2 h4.1 h4.2
  have he : inkV 255 1000000 1 = 1 := by decide
  have HE := Lib.hid he; clear he
  go_enter Try.func3, Try.ntmps3
  go_wp2_with fail
  refine (ink_ok _ _ _ _ (by omega) (by omega) (by omega) (by omega) (by omega) (by omega)).mono ?_
  rintro e w' ⟨rfl, rfl⟩
  rw [HE.out]
  go_wp2_with fail
  refine (within_any _ _ _ _ (by omega) (by omega) (by omega)).mono ?_
  rintro e w' ⟨rfl, rfl⟩
  go_wp2_with fail
  refine (within_any _ _ _ _ (by omega) (by omega) (by omega)).mono ?_
  rintro e w' ⟨rfl, rfl⟩
  go_wp2_with fail
  refine (within_any _ _ _ _ (by omega) (by omega) (by omega)).mono ?_
  rintro e w' ⟨rfl, rfl⟩
  go_wp2_with fail
  refine (within_any _ _ _ _ (by omega) (by omega) (by omega)).mono ?_
  rintro e w' ⟨rfl, rfl⟩
  go_wp2_with fail
  refine (ink_ok _ _ _ _ (by omega) (by omega) (by omega) (by omega) (by omega) (by omega)).mono ?_
  rintro e w' ⟨rfl, rfl⟩
  go_wp2_with fail
  refine (ink_ok _ _ _ _ (by omega) (by omega) (by omega) (by omega) (by omega) (by omega)).mono ?_
  rintro e w' ⟨rfl, rfl⟩
  go_wp2_with fail
  refine (ink_ok _ _ _ _ (by omega) (by omega) (by omega) (by omega) (by omega) (by omega)).mono ?_
  rintro e w' ⟨rfl, rfl⟩
  go_wp2_with fail
  go_ret
  exact ⟨rfl, Below.refl _ _⟩
set_option maxHeartbeats 400000 in
theorem in_any (x lo hi : Int) (w : World) :
    Calls Try.prog 11 #[.int .i64 x, .int .i64 lo, .int .i64 hi] w fun e w' => e = .returned (.bool (inB x lo hi)) ∧ w = w' := by
  by_cases h : lo ≤ x
  · by_cases h2 : x ≤ hi
    · have e1 := inB_yes h h2
      have E1 := Lib.hid e1; clear e1
      go_enter Try.func11, Try.ntmps11
      go_wp2
      go_ret
      exact ⟨by rw [E1.out]; rfl, rfl⟩
    · have e1 : inB x lo hi = false := inB_no (by omega)
      have E1 := Lib.hid e1; clear e1
      go_enter Try.func11, Try.ntmps11
      go_wp2
      go_ret
      exact ⟨by rw [E1.out]; rfl, rfl⟩
  · have e1 : inB x lo hi = false := inB_no (by omega)
    have E1 := Lib.hid e1; clear e1
    go_enter Try.func11, Try.ntmps11
    go_wp2
    go_ret
    exact ⟨by rw [E1.out]; rfl, rfl⟩
set_option maxHeartbeats 400000 in
theorem inkRounds_any (a : Int) (_ha : -9223372036854775808 ≤ a ∧ a ≤ 9223372036854775807) (s : Int) (_hs : -9223372036854775808 ≤ s ∧ s ≤ 9223372036854775807) (m : Int) (_hm : -9223372036854775808 ≤ m ∧ m ≤ 9223372036854775807) (w : World) :
    Calls Try.prog 4 #[.int .i64 a, .int .i64 s, .int .i64 m] w fun e w' => e = .returned (.bool true) ∧ Below w.heap.size w w' := by
  have he : inkV 255 1000000 1 = 1 := by decide
  have HE := Lib.hid he; clear he
  by_cases h : 0 ≤ a ∧ a ≤ 267386880 ∧ 0 ≤ s ∧ s ≤ 1048576 ∧ 0 ≤ m ∧ m ≤ 1024
  · obtain ⟨h0, h1, h2, h3, h4, h5⟩ := h
    have b1 := mul_bd a s _ _ h0 h1 h2 h3
    have b2 := mul_bd (a * s) m _ _ b1.1 b1.2 h4 h5
    have b3 := ink_div (a * s * m) b2.1
    have b4 : 0 ≤ inkV a s m ∧ inkV a s m ≤ 2000000000 := by unfold inkV; omega
    have b5 : a * s * m ≤ inkV a s m * 255000000 ∧ (inkV a s m - 1) * 255000000 < a * s * m := b3
    clear b3
    have i1 := inB_yes h0 h1
    have i2 := inB_yes h2 h3
    have i3 := inB_yes h4 h5
    go_enter Try.func4, Try.ntmps4
    go_wp2_with fail
    refine (ink_ok _ _ _ _ (by omega) (by omega) (by omega) (by omega) (by omega) (by omega)).mono ?_
    rintro e w' ⟨rfl, rfl⟩
    rw [HE.out]
    go_wp2_with fail
    refine (ink_ok _ _ _ _ (by omega) (by omega) (by omega) (by omega) (by omega) (by omega)).mono ?_
    rintro e w' ⟨rfl, rfl⟩
    go_wp2_with (go_at_call 11; refine (in_any _ _ _ _).mono ?_; rintro e w' ⟨rfl, rfl⟩)
    go_ret
    exact ⟨rfl, Below.refl _ _⟩
  · have hh : inB a 0 267386880 = false ∨ (inB a 0 267386880 = true ∧ inB s 0 1048576 = false) ∨ (inB a 0 267386880 = true ∧ inB s 0 1048576 = true ∧ inB m 0 1024 = false) := by
      unfold inB
      simp only [decide_eq_true_eq, decide_eq_false_iff_not]
      omega
    rcases hh with hh | ⟨g1, hh⟩ | ⟨g1, g2, hh⟩
    all_goals
      have HN := Lib.hid h
      clear h
      go_enter Try.func4, Try.ntmps4
      go_wp2_with fail
      refine (ink_ok _ _ _ _ (by omega) (by omega) (by omega) (by omega) (by omega) (by omega)).mono ?_
      rintro e w' ⟨rfl, rfl⟩
      rw [HE.out]
      go_wp2_with fail
      refine (ink_no _ _ _ _ HN.out).mono ?_
      rintro e w' ⟨rfl, rfl⟩
      go_wp2_with (go_at_call 11; refine (in_any _ _ _ _).mono ?_; rintro e w' ⟨rfl, rfl⟩)
      go_ret
      exact ⟨rfl, Below.refl _ _⟩
end Go.Proofs.Ytdgmdohmjdfgdaa
