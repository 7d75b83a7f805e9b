/-
  The walk of sColour. Own text.
-/
import Derived.Test.YtiokmfmcmfbjoaaGrey
namespace Go.Proofs.Ytiokmfmcmfbjoaa
open Go.RowKit
set_option linter.unusedVariables false
theorem FTab.one (w : World) (v : Int) (t : TypeId) : FTab (Value.int .i64) (w.alloc (.cells #[.int .i64 v] t)) w.heap.size 1 (fun _ => v) := by
  refine ⟨fun i hi => ?_, fun o => ?_⟩
  · obtain rfl : i = 0 := by omega
    have h := (BoxAt.new w #[.int .i64 v] t).at' 0 _ rfl
    exact h
  · unfold World.frozen?
    rw [heap_alloc_new]
    simp
/-- What is found for the fixed colour. -/
def RetOne (W : World) (e : Ending) (w' : World) : Prop := ∃ g, e = .returned (.tuple #[.slice (some ⟨g, 0, none⟩) 1 1, .int .i64 0, .int .i64 0]) ∧ w'.cell? ⟨g, 0, none⟩ = some (.int .i64 255) ∧ Below W.heap.size W w'
theorem find_grey (gi gc gv : Nat) (W : World) (hp : ProfAt W grey (some ⟨gi, 0, none⟩) 1 (some ⟨gc, 0, none⟩) 1 (some ⟨gv, 0, none⟩) 6) :
    Calls Try.prog 8 #[.agg (profCells grey (some ⟨gi, 0, none⟩) 1 (some ⟨gc, 0, none⟩) 1 (some ⟨gv, 0, none⟩) 6), .agg #[.int .i64 2000, .int .i64 100, .int .i64 (-100), .int .i64 51, .int .i64 255, .slice (some ⟨W.heap.size, 0, none⟩) 1 1, .slice (some ⟨W.heap.size + 1, 0, none⟩) 1 1]]
      ((W.alloc (.cells #[.int .i64 0] 3)).alloc (.cells #[.int .i64 255] 3)) (RetOne W) := by
  have b1 := balloc (Below.refl _ W) (.cells #[.int .i64 0] 3)
  have b2 := balloc (Below.refl _ (W.alloc (.cells #[.int .i64 0] 3))) (.cells #[.int .i64 255] 3)
  have f1 := (FTab.one W 0 3).below b2 (by simp)
  have f2 := FTab.one (W.alloc (.cells #[.int .i64 0] 3)) 255 3
  rw [World.size_alloc] at f2
  have e : askCells (fun o => labV grey [255] o) 51 255 (some ⟨W.heap.size, 0, none⟩) 1 (some ⟨W.heap.size + 1, 0, none⟩) 1 1 = #[.int .i64 2000, .int .i64 100, .int .i64 (-100), .int .i64 51, .int .i64 255, .slice (some ⟨W.heap.size, 0, none⟩) 1 1, .slice (some ⟨W.heap.size + 1, 0, none⟩) 1 1] := by
    show #[Value.int .i64 (labV grey [255] 0), .int .i64 (labV grey [255] 1), .int .i64 (labV grey [255] 2), .int .i64 51, .int .i64 255, .slice (some ⟨W.heap.size, 0, none⟩) 1 1, .slice (some ⟨W.heap.size + 1, 0, none⟩) 1 1] = _
    rw [grey_full.1, grey_full.2.1, grey_full.2.2]
  have h := find_any grey (some ⟨gi, 0, none⟩) 1 (some ⟨gc, 0, none⟩) 1 (some ⟨gv, 0, none⟩) 6 (fun o => labV grey [255] o) (fun _ => 5) 51 255 W.heap.size (W.heap.size + 1) 1 1 1 _ (hp.below (bthen b1 b2)) grey_ok rfl f1 f2 (by decide) (by decide) (.inl rfl) (fun o _ => rfl) (fun i _ => by decide)
  rw [e] at h
  refine h.mono ?_
  rintro e w' ⟨g, M, rfl, hT, hM, hD, hb⟩
  have hz := (dist_zero hD).1
  rw [cand1] at hz
  have h0 := hM 0 (by omega)
  have h5 := grey_only rfl h0.1 h0.2 (hz.trans grey_full.1)
  have hc := hT.at' 0 (by omega)
  simp only [h5] at hc
  exact ⟨g, rfl, hc, bthen (bthen b1 b2) hb⟩
theorem fwd_grey (gi gc gv : Nat) (W : World) (hp : ProfAt W grey (some ⟨gi, 0, none⟩) 1 (some ⟨gc, 0, none⟩) 1 (some ⟨gv, 0, none⟩) 6) :
    Calls Try.prog 7 #[.agg (profCells grey (some ⟨gi, 0, none⟩) 1 (some ⟨gc, 0, none⟩) 1 (some ⟨gv, 0, none⟩) 6), .slice (some ⟨W.heap.size, 0, none⟩) 1 1] (W.alloc (.cells #[.int .i64 128] 3))
      (fun e w' => e = .returned (.tuple #[.agg #[.int .i64 5984, .int .i64 50, .int .i64 (-50)], .int .i64 0]) ∧ Below W.heap.size W w') := by
  have b1 := balloc (Below.refl _ W) (.cells #[.int .i64 128] 3)
  have f := Flat.litN W 1 encInt [128] 3 (fun _ => rfl)
  refine (fwd_any grey (some ⟨gi, 0, none⟩) 1 (some ⟨gc, 0, none⟩) 1 (some ⟨gv, 0, none⟩) 6 (some ⟨W.heap.size, 0, none⟩) [128] 1 _ (hp.below b1) grey_ok f ⟨rfl, fun i hi => ?_⟩).mono ?_
  · have : i = 0 := by have : i < 1 := hi; omega
    subst this
    exact (by decide : (0 : Int) ≤ 128 ∧ (128 : Int) ≤ 255)
  · rintro e w' ⟨rfl, hb⟩
    rw [grey_half.1, grey_half.2.1, grey_half.2.2]
    exact ⟨rfl, bthen b1 hb⟩
set_option maxRecDepth 100000 in
set_option maxHeartbeats 1000000 in
theorem scolour_any (w : World) : Calls Try.prog 4 #[] w (fun e w' => e = .returned (.bool true) ∧ Below w.heap.size w w') := by
  go_enter Try.func4, Try.ntmps4
  go_wp2_with fail
  refine (sgrey_any _).mono ?_
  rintro e w1 ⟨gi, gc, gv, rfl, hp, hb⟩
  have HP := Lib.hid hp
  have HB := Lib.hid hb
  clear hp hb
  go_wp2_with fail
  refine (fwd_grey gi gc gv w1 HP.out).mono ?_
  rintro e w2 ⟨rfl, hb2⟩
  have HB2 := Lib.hid (bthen HB.out hb2)
  clear hb2 HP HB
  go_wp2_with fail
  have x0 := BoxAt.new w2 #[.int .i64 5984, .int .i64 50, .int .i64 (-50)] 33
  have x1 : (w2.alloc (.cells #[.int .i64 5984, .int .i64 50, .int .i64 (-50)] 33)).cell? ⟨w2.heap.size, 0, none⟩ = some (.int .i64 5984) := x0.at' 0 _ rfl
  have x2 : (w2.alloc (.cells #[.int .i64 5984, .int .i64 50, .int .i64 (-50)] 33)).cell? ⟨w2.heap.size, 1, none⟩ = some (.int .i64 50) := x0.at' 1 _ rfl
  have x3 : (w2.alloc (.cells #[.int .i64 5984, .int .i64 50, .int .i64 (-50)] 33)).cell? ⟨w2.heap.size, 2, none⟩ = some (.int .i64 (-50)) := x0.at' 2 _ rfl
  have HB3 := Lib.hid (balloc HB2.out (.cells #[.int .i64 5984, .int .i64 50, .int .i64 (-50)] 33))
  clear x0 HB2
  generalize w2.alloc (.cells #[.int .i64 5984, .int .i64 50, .int .i64 (-50)] 33) = w3 at *
  refine (sgrey_any _).mono ?_
  rintro e w4 ⟨gi, gc, gv, rfl, hp, hb⟩
  have y1 := keepCell hb x1
  have y2 := keepCell hb x2
  have y3 := keepCell hb x3
  have HP := Lib.hid hp
  have HB4 := Lib.hid (bthen HB3.out hb)
  clear hp hb x1 x2 x3 HB3
  go_wp2_with fail
  refine (find_grey gi gc gv w4 HP.out).mono ?_
  rintro e w5 ⟨g, rfl, hc, hb⟩
  have x1 := keepCell hb y1
  have x2 := keepCell hb y2
  have x3 := keepCell hb y3
  have HB5 := Lib.hid (bthen HB4.out hb)
  clear hb y1 y2 y3 HP HB4
  go_wp2
  go_ret
  exact ⟨rfl, HB5.out⟩
end Go.Proofs.Ytiokmfmcmfbjoaa
