/-
  Walks of the scalar functions of package paper and of the laws on ink. Own text.
-/
import Derived.Test.YtimofofaeedcoaaRows
import Derived.Test.YtimofofaeedcoaaNum
import Derived.WalkKit
import Derived.WalkSpells
import Derived.WalkLawsBesides
import Derived.Lib.Hide
namespace Go.Proofs.Ytimofofaeedcoaa
open Go.RowKit
set_option linter.unusedVariables false
set_option maxHeartbeats 400000 in
theorem up_any (a b : Int) (w : World) (h0 : 0 ≤ a) (h1 : a ≤ 2000000000000000000) (h2 : 1 ≤ b) (h3 : b ≤ 1000000000) :
    Calls Try.prog 23 #[.int .i64 a, .int .i64 b] w fun e w' => e = .returned (.int .i64 ((a + b - 1) / b)) ∧ w = w' := by
  go_enter Try.func23, Try.ntmps23
  go_wp2
  go_ret
  exact ⟨rfl, rfl⟩
def inkV (a s m : Int) : Int := (a * s * m + 255000000 - 1) / 255000000
theorem ink_adds (a s t m : Int) (h0 : 0 ≤ a) (h1 : a ≤ 267386880) (h2 : 0 ≤ s) (h3 : s ≤ 524288) (h2' : 0 ≤ t) (h3' : t ≤ 524288) (h4 : 0 ≤ m) (h5 : m ≤ 1024) :
    (0 ≤ inkV a s m ∧ inkV a s m ≤ 1000000000000) ∧ (0 ≤ inkV a t m ∧ inkV a t m ≤ 1000000000000) ∧ inkV a (s + t) m ≤ inkV a s m + inkV a t m ∧ inkV a s m + inkV a t m - 1 ≤ inkV a (s + t) m ∧ inkV a s m ≤ inkV a (s + t) m ∧ inkV a t m ≤ inkV a (s + t) m := by
  have b1 := mul_bd a s _ _ h0 h1 h2 h3
  have b2 := mul_bd (a * s) m _ _ b1.1 b1.2 h4 h5
  have c1 := mul_bd a t _ _ h0 h1 h2' h3'
  have c2 := mul_bd (a * t) m _ _ c1.1 c1.2 h4 h5
  have e : a * (s + t) * m = a * s * m + a * t * m := by rw [Int.mul_add, Int.add_mul]
  unfold inkV
  rw [e]
  generalize a * s * m = p at *
  generalize a * t * m = q at *
  omega
theorem ink_div (p : Int) (h : 0 ≤ p) : p ≤ (p + 255000000 - 1) / 255000000 * 255000000 ∧ ((p + 255000000 - 1) / 255000000 - 1) * 255000000 < p := by omega
end Go.Proofs.Ytimofofaeedcoaa
