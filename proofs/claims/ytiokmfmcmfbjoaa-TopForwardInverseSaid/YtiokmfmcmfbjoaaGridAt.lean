/-
  Nodes of a grid; the walk of grid.at. Own text.
-/
import Derived.Test.YtiokmfmcmfbjoaaFine
namespace Go.Proofs.Ytiokmfmcmfbjoaa
open Go.RowKit
set_option linter.unusedVariables false
/-- The number of a node. -/
def nodeV (size : Int) (idx : List Int) : Int := idx.foldl (fun n k => n * size + k) 0
theorem nodeV_succ (size : Int) {idx : List Int} {k : Nat} (h : k < idx.length) : nodeV size (idx.take (k + 1)) = nodeV size (idx.take k) * size + idx[k] := by
  unfold nodeV
  rw [List.take_succ_eq_append_getElem h, List.foldl_append]
  rfl
def InNodes (size : Int) (idx : List Int) : Prop := ∀ i (h : i < idx.length), 0 ≤ idx[i] ∧ idx[i] ≤ size - 1
theorem nodeV_bd {size : Int} (hs : 1 ≤ size) {idx : List Int} (hi : InNodes size idx) : ∀ k, k ≤ idx.length → 0 ≤ nodeV size (idx.take k) ∧ nodeV size (idx.take k) + 1 ≤ pw size k := by
  intro k
  induction k with
  | zero => intro _; rw [List.take_zero]; exact ⟨Int.le_refl _, Int.le_refl _⟩
  | succ k ih =>
    intro h
    obtain ⟨h1, h2⟩ := ih (by omega)
    have h3 := hi k (by omega)
    rw [nodeV_succ size (by omega)]
    have h4 : (nodeV size (idx.take k) + 1) * size ≤ pw size k * size := Int.mul_le_mul_of_nonneg_right h2 (by omega)
    have h5 : 0 ≤ nodeV size (idx.take k) * size := Int.mul_nonneg h1 (by omega)
    rw [Int.add_mul, Int.one_mul] at h4
    show _ ∧ _ ≤ pw size k * size
    omega
set_option maxHeartbeats 1000000 in
theorem at_any (b : Nat) (size out : Int) (oi : Option Addr) (idx : List Int) (ci : Nat) (w : World) (c4 : w.cell? ⟨b, 4, none⟩ = some (.int .i64 out)) (c5 : w.cell? ⟨b, 5, none⟩ = some (.int .i64 size)) (hx : Flat w 1 encInt oi idx) (hl : idx.length ≤ 4) (hs : 1 ≤ size) (hs2 : size ≤ 9) (ho : 1 ≤ out) (ho2 : out ≤ 8) (hi : InNodes size idx) :
    Calls Try.prog 30 #[.pointer (some ⟨b, 3, none⟩), .slice oi idx.length ci] w fun e w' => e = .returned (.int .i64 (nodeV size idx * out)) ∧ w = w' := by
  have HI := Lib.hid hi; clear hi
  have hbd : Hid (∀ k, k ≤ idx.length → 0 ≤ nodeV size (idx.take k) ∧ nodeV size (idx.take k) ≤ 6560) := fun k hk => by
    have h1 := nodeV_bd hs HI.out k hk
    have h2 := pw_bd hs hs2 k (by omega)
    omega
  go_enter Try.func30, Try.ntmps30
  go_wp2
  go_loop [5, 10] (fun n i => ∃ k : Nat, k ≤ idx.length ∧ i = .int .i64 k ∧ n = .int .i64 (nodeV size (idx.take k))) (fun _ i => idx.length - (intOf i).toNat)
  case atStart => exact ⟨0, by omega, rfl, rfl⟩
  case round =>
    obtain ⟨k, hk, rfl, rfl⟩ := hrel
    have hb1 := hbd.out k hk
    by_cases hlt : k < idx.length
    · obtain ⟨bb, off, rfl, e1⟩ := hx.int hlt
      have hb2 := hbd.out (k + 1) (by omega)
      have E := Lib.hid (nodeV_succ size hlt)
      have h3 := HI.out k hlt
      rw [E.out] at hb2
      have hmb := mul_bd (nodeV size (idx.take k)) size 6560 9 (by omega) (by omega) (by omega) (by omega)
      have g1 : IntKind.i64.wrap (nodeV size (idx.take k) * size) = nodeV size (idx.take k) * size := IntWalk.i64_in _ (by omega)
      generalize nodeV size (idx.take k) = x at *
      go_wp2
      go_round
      case rel => exact ⟨k + 1, by omega, by go_num, by rw [E.out]⟩
      case measure => simp [intOf]; omega
    · have E := Lib.hid (show idx.take k = idx from List.take_of_length_le (by omega))
      rw [E.out] at hb1 ⊢
      have hmb := mul_bd (nodeV size idx) out 6560 8 (by omega) (by omega) (by omega) (by omega)
      have g1 : IntKind.i64.wrap (nodeV size idx * out) = nodeV size idx * out := IntWalk.i64_in _ (by omega)
      go_wp2
      go_ret
      exact ⟨rfl, rfl⟩
end Go.Proofs.Ytiokmfmcmfbjoaa
