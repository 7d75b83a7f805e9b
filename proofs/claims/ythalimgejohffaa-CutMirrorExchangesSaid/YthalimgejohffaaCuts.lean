/-
  keep4.cuts: the example. Own text.
-/
import Derived.Test.YthalimgejohffaaDisj
namespace Go.Proofs.Ythalimgejohffaa
open Go.RowKit
set_option linter.unusedVariables false
def halfItems : List Item := [⟨2, 2, 3, false⟩]
def halfTree : Tree := .mk 2 2 0 [.mk 1 0 0 [], .mk 0 0 0 []]
theorem half_pieces : piecesV 3 2 halfItems halfTree = .ok ⟨3, [⟨0, 0, 0, 2, 2⟩], 2⟩ := by rfl
set_option maxHeartbeats 1000000 in
theorem halved_any (w : World) : Calls Try.prog 29 #[] w fun e w' => ∃ oi oa, e = .returned (.tuple #[.slice oi 1 1, .agg #[.int .i64 2, .int .i64 2, .int .i64 0, .slice oa 2 2]]) ∧ Below w.heap.size w w' ∧
    Flat w' 4 encItem oi halfItems ∧ TreeAt w' halfTree [.int .i64 2, .int .i64 2, .int .i64 0, .slice oa 2 2] := by
  go_enter Try.func29, Try.ntmps29
  go_wp2
  try simp only [Exit.inBlock, Exit.then]
  have hres : Try.f29.results = #[.tmp 0, .cell 1 25] := rfl
  refine bodyPost_ret (v := .tuple #[.slice (some ⟨w.heap.size + 1, 0, none⟩) 1 1, .agg #[.int .i64 2, .int .i64 2, .int .i64 0, .slice (some ⟨w.heap.size + 1 + 1, 0, none⟩) 2 2]]) ?_ rfl ?_
  · simp only [results, hres]
    go_simp
  refine ⟨some ⟨w.heap.size + 1, 0, none⟩, some ⟨w.heap.size + 1 + 1, 0, none⟩, rfl, ?_, ?_, ?_⟩
  · exact balloc (balloc (balloc (Below.refl _ w) _) _) _
  · have h1 := Flat.lit1 (w.alloc (.cells #[.int .i64 2, .int .i64 2, .int .i64 0, .slice (some ⟨w.heap.size + 1 + 1, 0, none⟩) 2 2] 25)) 4 encItem ⟨2, 2, 3, false⟩ 51 rfl
    have e : (w.alloc (.cells #[.int .i64 2, .int .i64 2, .int .i64 0, .slice (some ⟨w.heap.size + 1 + 1, 0, none⟩) 2 2] 25)).heap.size = w.heap.size + 1 := by simp
    rw [e] at h1
    exact h1.below ((Below.refl _ _).alloc (Nat.le_refl _) _)
  · refine .mk 2 2 0 _ (some ⟨w.heap.size + 1 + 1, 0, none⟩) 2 (fun j => if j = 0 then [.int .i64 1, .int .i64 0, .int .i64 0, .slice none 0 0] else [.int .i64 0, .int .i64 0, .int .i64 0, .slice none 0 0]) (by decide) (by omega) (fun j hj => ⟨_, _, rfl, fun q v hv => ?_⟩) (fun j hj => ?_)
    · have hj2 : j = 0 ∨ j = 1 := by have : j < 2 := hj; omega
      have hq : q < 4 := by
        have := (List.getElem?_eq_some_iff.1 hv).1
        rcases hj2 with rfl | rfl <;> simpa using this
      have hq2 : q = 0 ∨ q = 1 ∨ q = 2 ∨ q = 3 := by omega
      rcases hj2 with rfl | rfl <;> rcases hq2 with rfl | rfl | rfl | rfl <;> simp at hv <;> subst hv <;> go_simp
    · have hj2 : j = 0 ∨ j = 1 := by have : j < 2 := hj; omega
      rcases hj2 with rfl | rfl
      · exact .mk 1 0 0 [] none 0 (fun _ => []) (by decide) (by omega) (fun j hj => by cases hj) (fun j hj => by cases hj)
      · exact .mk 0 0 0 [] none 0 (fun _ => []) (by decide) (by omega) (fun j hj => by cases hj) (fun j hj => by cases hj)
set_option maxHeartbeats 1000000 in
theorem cuts_any (w : World) : Calls Try.prog 10 #[] w fun e w' => e = .returned (.bool true) ∧ Below w.heap.size w w' := by
  have HP := Lib.hid half_pieces
  go_enter Try.func10, Try.ntmps10
  go_wp2_with fail
  refine (halved_any _).mono ?_
  rintro e w1 ⟨oi, oa, rfl, hb1, hx, hT⟩
  go_wp2_with fail
  refine (pieces_any 3 2 oi halfItems 1 halfTree 2 2 0 oa 2 2 _ (by decide) (hx.below ((Below.refl _ _).alloc (Nat.le_refl _) _)) (hT.under ((Below.refl _ _).alloc (Nat.le_refl _) _))).mono ?_
  rw [HP.out]
  rintro e w2 ⟨hb2, oar, capr, rfl, _, hf, _⟩
  have hb3 := bthen hb1 (balloc_lt _ _ hb2)
  obtain ⟨b, off, rfl, c0, c1, c2, c3, c4⟩ := hf.rect (i := 0) (by decide)
  simp only [List.getElem_cons_zero, Nat.zero_mul, Nat.add_zero] at c0 c1 c2 c3 c4
  clear hx hT hf hb2 hb1
  go_wp2
  go_ret
  exact ⟨rfl, hb3⟩
end Go.Proofs.Ythalimgejohffaa
