/-
  The walk of mBinds. Own text.
-/
import Derived.Test.YtdblibjmgamjeaaBind1
import Derived.Test.YtdblibjmgamjeaaCut2
namespace Go.Proofs.Ytdblibjmgamjeaa
open Go.RowKit
set_option linter.unusedVariables false
def imgB : Img := ⟨2, 1, fun x _ => x + 1⟩
theorem imgB_list : listI imgB = [1, 2] := rfl
theorem SecV.get {w : World} {oa : Option Addr} {us : List Value} {ys : List (List Int)} (h : SecV w oa us ys) {i : Nat} (hi : i < ys.length) : ∃ b off o c, oa = some ⟨b, off, none⟩ ∧ w.cell? ⟨b, off + i, none⟩ = some (.slice o ys[i].length c) ∧ IsSlice w 1 encInt (.slice o ys[i].length c) ys[i] := by
  have hi' : i < us.length := by rw [h.len]; exact hi
  have hr := h.row i hi' hi
  obtain ⟨v0, h0, b, off, e0, c0⟩ := h.flat i hi' 0 (by omega)
  simp only [encV, List.getElem?_cons_zero, Option.some.injEq] at h0
  have hr2 := hr
  obtain ⟨o, c, e, -, -, -⟩ := hr2
  rw [← h0, e] at c0
  rw [e] at hr
  exact ⟨b, off, o, c, e0, by simpa using c0, hr⟩
theorem px_lit (w : World) (a b : Int) : PxAt (w.alloc (.cells #[.int .u8 a, .int .u8 b] 5)) (some ⟨w.heap.size, 0, none⟩) 2 2 [a, b] :=
  IsSlice.litN w 1 encPx [a, b] 5 (fun _ => rfl) (by unfold maxLen; simp) 2
set_option maxRecDepth 100000 in
set_option maxHeartbeats 8000000 in
theorem binds_any (w : World) : Calls Try.prog 5 #[] w fun e w' => e = .returned (.bool true) ∧ Below w.heap.size w w' := by
  have HPL : Hid (Calls Try.prog 14 #[.int .i64 6, .int .i64 4, .int .i64 1] w (fun e w' => ∃ us oa c, e = .returned (.tuple #[.slice oa 2 c, .int .i64 0]) ∧ SecV w' oa us [[1, 2, 0, 0], [3, 4, 5, 6]] ∧ Below w.heap.size w w')) :=
    plan1_any 6 4 (by decide) (by decide) (by decide) (by decide) (by decide) w
  have HCU : Hid (∀ W, Below w.heap.size w W → Calls Try.prog 11 #[.agg #[.int .i64 2, .int .i64 1, .slice (some ⟨W.heap.size, 0, none⟩) 2 2], .agg #[.int .i64 2, .int .i64 1, .slice (some ⟨W.heap.size + 1, 0, none⟩) 2 2], .int .i64 1] ((W.alloc (.cells #[.int .u8 1, .int .u8 2] 5)).alloc (.cells #[.int .u8 1, .int .u8 2] 5)) (fun e w' => ∃ oa c b off o k, e = .returned (.tuple #[.slice oa 2 c, .int .i64 0]) ∧ oa = some ⟨b, off, none⟩ ∧ w'.cell? ⟨b, off + 5, none⟩ = some (.slice o 1 k) ∧ PxAt w' o 1 k [2] ∧ Below W.heap.size W w')) := fun W hb => by
    have p1 := (px_lit W 1 2).below (balloc (Below.refl _ (W.alloc (.cells #[.int .u8 1, .int .u8 2] 5))) (.cells #[.int .u8 1, .int .u8 2] 5))
    have p2 := px_lit (W.alloc (.cells #[.int .u8 1, .int .u8 2] 5)) 1 2
    rw [World.size_alloc] at p2
    have h := cut1_any imgB imgB ⟨by decide, by decide, by decide, by decide⟩ rfl rfl 1 (by decide) rfl (some ⟨W.heap.size, 0, none⟩) (some ⟨W.heap.size + 1, 0, none⟩) 2 2 _ p1 p2
    refine h.mono ?_
    rintro e w' ⟨us, oa, c, he, hr, -, hb', -⟩
    obtain ⟨b, off, oF, cF, oB, cB, h0, -, -, -, -, -, h6, -, h8⟩ := RowB.at hr (i := 0) (by decide)
    exact ⟨oa, c, b, off, oB, cB, he, h0, h6, h8, bthen (balloc (balloc (Below.refl _ W) _) _) hb'⟩
  go_enter Try.func5, Try.ntmps5
  go_wp2_with fail
  refine HPL.out.mono ?_
  intro e w2 hret
  obtain ⟨us, oa, c, rfl, hs, hb2⟩ := hret
  have HS := Lib.hid hs
  have HB2 := Lib.hid hb2
  clear hs hb2 HPL
  have HCW := Lib.hid (HCU.out w2 HB2.out)
  clear HCU
  dsimp only
  go_wp2_with fail
  refine HCW.out.mono ?_
  intro e w3 hret
  obtain ⟨ob, cb, bb, offb, o5, k5, rfl, rfl, hc5, hp5, hb3⟩ := hret
  have hs3 := HS.out.below (stab_slice 1 encInt) hb3
  obtain ⟨ba, offa, o4, k4, rfl, hc4, hi4⟩ := SecV.get hs3 (i := 0) (by decide)
  have hc4 : w3.cell? ⟨ba, offa, none⟩ = some (.slice o4 4 k4) := hc4
  have hi4 : IsSlice w3 1 encInt (.slice o4 4 k4) [1, 2, 0, 0] := hi4
  have hb4 := balloc (Below.refl _ w3) (.cells #[.int .i64 1, .int .i64 2, .int .i64 0, .int .i64 0] 3)
  have HEQ : Hid (Calls Try.prog 18 #[.slice o4 4 k4, .slice (some ⟨w3.heap.size, 0, none⟩) 4 4] (w3.alloc (.cells #[.int .i64 1, .int .i64 2, .int .i64 0, .int .i64 0] 3)) fun e w' => e = .returned (.bool true) ∧ Below w3.heap.size w3 w') :=
    (equalI_any o4 (some ⟨w3.heap.size, 0, none⟩) [1, 2, 0, 0] k4 4 _ (hi4.below hb4) (IsSlice.litN w3 1 encInt [1, 2, 0, 0] 3 (fun _ => rfl) (by unfold maxLen; simp) 4) (by simp)).mono fun e w' ⟨h1, h2⟩ => ⟨h1, bthen hb4 h2⟩
  obtain ⟨-, b6, off6, rfl, hc6⟩ := PxAt.get hp5 (k := 0) (p := 2) (by simp) rfl
  have hc6 : w3.cell? ⟨b6, off6, none⟩ = some (.int .u8 2) := hc6
  have HP : Hid (w3.cell? ⟨bb, offb + 5, none⟩ = some (.slice (some ⟨b6, off6, none⟩) 1 k5) ∧ w3.cell? ⟨b6, off6, none⟩ = some (.int .u8 2)) := ⟨hc5, hc6⟩
  have HB3 := Lib.hid (bthen HB2.out hb3)
  clear hs3 hi4 hp5 hb3 hb4 hc5 hc6
  dsimp only
  go_wp2_with fail
  refine HEQ.out.mono ?_
  rintro e w4 ⟨rfl, hb4⟩
  have hc5 := keepCell hb4 HP.out.1
  have hc6 := keepCell hb4 HP.out.2
  have HF := Lib.hid (bthen HB3.out hb4)
  clear hb4 hc4
  go_wp2_with fail
  go_ret
  exact ⟨rfl, HF.out⟩
end Go.Proofs.Ytdblibjmgamjeaa
