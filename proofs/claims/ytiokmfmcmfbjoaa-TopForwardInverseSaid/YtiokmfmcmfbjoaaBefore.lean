/-
  The walks of before and of refspace.Far. Own text.
-/
import Derived.Test.YtiokmfmcmfbjoaaBound
namespace Go.Proofs.Ytiokmfmcmfbjoaa
open Go.RowKit
set_option linter.unusedVariables false
/-- Does the first list precede the second, from place k on. -/
def beforeV (v M : Nat → Int) : Nat → Nat → Bool
  | 0, _ => false
  | n + 1, k => if v k = M k then beforeV v M n (k + 1) else decide (v k < M k)
/-- Returns a bool and leaves memory alone. -/
def RetSome (x : Bool) (w : World) (e : Ending) (w' : World) : Prop := e = .returned (.bool x) ∧ w = w'
set_option maxRecDepth 100000 in
set_option maxHeartbeats 4000000 in
theorem before_any (bs ba bf g d : Nat) (st : Int) (F M : Nat → Int) (w : World) (c1 : w.cell? ⟨bs, 1, none⟩ = some (.pointer (some ⟨ba, 0, none⟩))) (c2 : w.cell? ⟨bs, 2, none⟩ = some (.slice (some ⟨g, 0, none⟩) d d)) (c6 : w.cell? ⟨bs, 6, none⟩ = some (.slice (some ⟨bf, 0, none⟩) d d)) (c3 : w.cell? ⟨ba, 3, none⟩ = some (.int .i64 st))
    (hF : FTab (Value.int .i64) w bf d F) (hM : FTab (Value.int .i64) w g d M) (hd : d ≤ 4) (hst : 1 ≤ st ∧ st ≤ 255) (hb : ∀ i, i < d → 0 ≤ F i ∧ F i * st ≤ 255) :
    Calls Try.prog 28 #[.pointer (some ⟨bs, 0, none⟩)] w (RetSome (beforeV (fun i => F i * st) M d 0) w) := by
  have HF := Lib.hid hF
  have HM := Lib.hid hM
  have HB := Lib.hid hb
  obtain ⟨r, hr⟩ : ∃ r, r = beforeV (fun i => F i * st) M d 0 := ⟨_, rfl⟩
  rw [← hr]
  have H0 : Hid (r = beforeV (fun i => F i * st) M (d - 0) 0) := hr
  obtain ⟨st1, st2⟩ := hst
  clear hr
  clear hF hM hb
  go_enter Try.func28, Try.ntmps28
  go_wp2
  go_loopw [10] (fun i wr => ∃ k : Nat, k ≤ d ∧ i = .int .i64 k ∧ w = wr ∧ Hid (r = beforeV (fun i => F i * st) M (d - k) k)) (fun i _ => d - (intOf i).toNat)
  case atStart => exact ⟨0, by omega, rfl, by first | rfl | trivial, H0⟩
  case round =>
    clear H0
    obtain ⟨k, hk, rfl, rfl, HR⟩ := hrel
    by_cases hlt : k < d
    · obtain ⟨b0, b1⟩ := HB.out k hlt
      have b2 : 0 ≤ F k * st := Int.mul_nonneg b0 (by omega)
      have e1 := HF.out.at' k hlt
      have e2 := HM.out.at' k hlt
      obtain ⟨Fk, hFk⟩ : ∃ Fk, Fk = F k := ⟨_, rfl⟩
      obtain ⟨Mk, hMk⟩ : ∃ Mk, Mk = M k := ⟨_, rfl⟩
      rw [← hFk] at b0 b1 b2 e1
      rw [← hMk] at e2
      obtain ⟨A, hA⟩ : ∃ A, A = Fk * st := ⟨_, rfl⟩
      rw [← hA] at b1 b2
      have w1 : IntKind.i64.wrap (Fk * st) = A := by rw [← hA]; exact IntWalk.i64_in _ (by omega)
      have k0 : (0 : Int) ≤ (k : Int) := by omega
      have kd : (k : Int) < (d : Int) := by omega
      have hr := HR.out
      rw [show d - k = (d - (k + 1)) + 1 by omega] at hr
      have HE : Hid (A = Mk → r = beforeV (fun i => F i * st) M (d - (k + 1)) (k + 1)) := fun h => by
        rw [hr]
        exact if_pos (by show F k * st = M k; rw [← hFk, ← hMk, ← hA]; exact h)
      have HN : Hid (A ≠ Mk → r = decide (A < Mk)) := fun h => by
        rw [hr]
        unfold beforeV
        rw [if_neg (by show ¬ F k * st = M k; rw [← hFk, ← hMk, ← hA]; exact h)]
        show decide (F k * st < M k) = _
        rw [← hFk, ← hMk, ← hA]
      clear hFk hMk hA hr HR
      by_cases he : A = Mk
      · have he2 : (A != Mk) = false := by simp [he]
        have HE2 := Lib.hid (HE.out he)
        go_wp2
        go_roundw
        case rel => exact ⟨k + 1, by omega, by go_num, by first | rfl | trivial, HE2⟩
        case measure => simp [intOf]; omega
      · have he2 : (A != Mk) = true := by simp [he]
        have HQ : Hid (RetSome r w (.returned (.bool (decide (A < Mk)))) w) := ⟨by rw [HN.out he], rfl⟩
        go_wp2
        go_ret
        exact HQ.out
    · obtain rfl : d = k := by omega
      have HQ : Hid (RetSome r w (.returned (.bool false)) w) := ⟨by rw [HR.out, Nat.sub_self]; rfl, rfl⟩
      go_wp2
      go_ret
      exact HQ.out
/-- Returns an int; memory is only made. -/
def RetInt (n : Int) (w : World) (e : Ending) (w' : World) : Prop := e = .returned (.int .i64 n) ∧ Below w.heap.size w w'
set_option maxHeartbeats 4000000 in
theorem far_any (a b c x y z : Int) (w : World) (h1 : -100000 ≤ a ∧ a ≤ 100000) (h2 : -100000 ≤ b ∧ b ≤ 100000) (h3 : -100000 ≤ c ∧ c ≤ 100000) (h4 : -100000 ≤ x ∧ x ≤ 100000) (h5 : -100000 ≤ y ∧ y ≤ 100000) (h6 : -100000 ≤ z ∧ z ≤ 100000) :
    Calls Try.prog 29 #[.agg #[.int .i64 a, .int .i64 b, .int .i64 c], .agg #[.int .i64 x, .int .i64 y, .int .i64 z]] w (RetInt ((a - x) * (a - x) + (b - y) * (b - y) + (c - z) * (c - z)) w) := by
  have sq : ∀ p : Int, -200000 ≤ p → p ≤ 200000 → 0 ≤ p * p ∧ p * p ≤ 40000000000 := fun p q1 q2 => by
    rcases Int.le_total 0 p with h | h
    · have := mul_bd p p 200000 200000 h q2 h q2
      omega
    · have := mul_bd (-p) (-p) 200000 200000 (by omega) (by omega) (by omega) (by omega)
      rw [Int.neg_mul_neg] at this
      omega
  have s1 := sq (a - x) (by omega) (by omega)
  have s2 := sq (b - y) (by omega) (by omega)
  have s3 := sq (c - z) (by omega) (by omega)
  have w1 : IntKind.i64.wrap (a - x) = a - x := IntWalk.i64_in _ (by omega)
  have w2 : IntKind.i64.wrap (b - y) = b - y := IntWalk.i64_in _ (by omega)
  have w3 : IntKind.i64.wrap (c - z) = c - z := IntWalk.i64_in _ (by omega)
  obtain ⟨p, hp⟩ : ∃ p, p = (a - x) * (a - x) := ⟨_, rfl⟩
  obtain ⟨q, hq⟩ : ∃ p, p = (b - y) * (b - y) := ⟨_, rfl⟩
  obtain ⟨r, hr⟩ : ∃ p, p = (c - z) * (c - z) := ⟨_, rfl⟩
  rw [← hp, ← hq, ← hr]
  rw [← hp] at s1
  rw [← hq] at s2
  rw [← hr] at s3
  have w4 : IntKind.i64.wrap ((a - x) * (a - x)) = p := by rw [← hp]; exact IntWalk.i64_in _ (by omega)
  have w5 : IntKind.i64.wrap ((b - y) * (b - y)) = q := by rw [← hq]; exact IntWalk.i64_in _ (by omega)
  have w6 : IntKind.i64.wrap ((c - z) * (c - z)) = r := by rw [← hr]; exact IntWalk.i64_in _ (by omega)
  have w7 : IntKind.i64.wrap (p + q) = p + q := IntWalk.i64_in _ (by omega)
  have w8 : IntKind.i64.wrap (p + q + r) = p + q + r := IntWalk.i64_in _ (by omega)
  have HF : Hid (∀ w', Below w.heap.size w w' → RetInt (p + q + r) w (.returned (.int .i64 (p + q + r))) w') := fun w' h => ⟨rfl, h⟩
  clear hp hq hr h1 h2 h3 h4 h5 h6 s1 s2 s3 sq
  go_enter Try.func29, Try.ntmps29
  go_wp2
  go_quiet (fail)
  go_wp2
  go_ret
  refine HF.out _ (bdrewN (balloc (balloc (Below.refl _ _) _) _) _)
end Go.Proofs.Ytiokmfmcmfbjoaa
