/-
  slices.Min at []int. Own text.
-/
import Derived.Test.YtobmpleddhcloaaInts
import Derived.Test.YtobmpleddhcloaaMore
import Derived.WalkKit
import Derived.WalkSpells
import Derived.WalkLawsBesides
namespace Go.Proofs.Ytobmpleddhcloaa
open Go.RowKit
set_option linter.unusedVariables false
section
variable {P : Program} {w : World} {ops : Array Oper} {rest : List Oper} {o : Oper} {a : Act} {Q : Exit → Act → World → Prop}
/-- min of two ints, as a number of the prover's. -/
theorem wpList_min2 (hgd : o.guard = none) (x y : Operand) (ts : Array TypeId) (ho : o.op = .call { callee := .builtin .min, args := #[x, y], argTypes := ts })
    (p q r : Int) (hx : a.eval x = .int .i64 p) (hy : a.eval y = .int .i64 q) (hr : (if q < p then q else p) = r) (h : wpList P ops Q rest (a.put o.dst (.int .i64 r)) w) : wpList P ops Q (o :: rest) a w := by
  refine wpList_plain hgd fun K hK => ?_
  unfold Oper.wp execOp
  simp only [ho, resolve, invoke, builtin, Sem.run_bind, Sem.run_pure, Result.andThen_ok, List.map_toArray, List.map_cons, List.map_nil, hx, hy, Builtin.min_, List.foldlM, Builtin.min2, hr]
  exact hK _ _ h
end
set_option maxHeartbeats 400000 in
theorem min_any (oa : Option Addr) (xs : List Int) (cap : Nat) (w : World) (h0 : 1 ≤ xs.length) (hm : xs.length ≤ maxLen) (hx : Flat w 1 encInt oa xs) :
    Calls Try.prog 32 #[.slice oa xs.length cap] w fun e w' => ∃ x, x ∈ xs ∧ e = .returned (.int .i64 x) ∧ w = w' := by
  have hm9 : xs.length ≤ 9223372036854775807 := by unfold maxLen at hm; omega
  obtain ⟨b, off, rfl, hc0⟩ := hx.int (i := 0) (by omega)
  rw [Nat.add_zero] at hc0
  have hm0 : xs[0] ∈ xs := List.getElem_mem _
  go_enter Try.func32, Try.ntmps32
  go_wp2
  go_loop [3, 4] (fun m i => ∃ (k : Nat) (x : Int), k ≤ xs.length ∧ i = .int .i64 k ∧ m = .int .i64 x ∧ x ∈ xs) (fun _ i => xs.length - (intOf i).toNat)
  case atStart => exact ⟨1, _, by omega, rfl, rfl, hm0⟩
  case round =>
    obtain ⟨k, x, hk, rfl, rfl, hmx⟩ := hrel
    by_cases hlt : k < xs.length
    · obtain ⟨b', off', e1, hc1⟩ := hx.int hlt
      simp only [Option.some.injEq, Addr.mk.injEq, and_true] at e1
      obtain ⟨rfl, rfl⟩ := e1
      have hmk : xs[k] ∈ xs := List.getElem_mem _
      obtain ⟨y, hy, hmy⟩ : ∃ y, (if xs[k] < x then xs[k] else x) = y ∧ y ∈ xs := by
        split
        · exact ⟨_, rfl, hmk⟩
        · exact ⟨_, rfl, hmx⟩
      go_wp2_with (refine wpList_min2 rfl _ _ _ rfl x xs[k] y rfl rfl hy ?_)
      go_round
      case rel => exact ⟨k + 1, _, by omega, by go_num, rfl, hmy⟩
      case measure => simp [intOf]; omega
    · go_wp2
      go_ret
      exact ⟨_, hmx, rfl, rfl⟩
end Go.Proofs.Ytobmpleddhcloaa
