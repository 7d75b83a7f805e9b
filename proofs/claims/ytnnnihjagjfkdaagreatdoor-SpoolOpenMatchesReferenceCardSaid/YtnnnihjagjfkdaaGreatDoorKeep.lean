/-
  The walks of keep4's within and queues. Own text.
-/
import Derived.Test.YtnnnihjagjfkdaaGreatDoorQues
import Derived.Test.YtnnnihjagjfkdaaGreatDoorBase
namespace Go.Proofs.YtnnnihjagjfkdaaGreatDoor
open Go.RowKit
set_option linter.unusedVariables false
set_option maxHeartbeats 400000 in
theorem within_any (x lo hi : Int) (w : World) (h0 : -1000000000000000000 ≤ lo) (h1 : lo ≤ hi) (h2 : hi ≤ 1000000000000000000) :
    Calls Tryz.prog 32 #[.int .i64 x, .int .i64 lo, .int .i64 hi] w fun e w' => e = .returned (.int .i64 (wi x lo hi)) ∧ w = w' := by
  have hb := tmod_bd x (hi - lo + 1) (by omega)
  have hr := Int.emod_nonneg (x.tmod (hi - lo + 1)) (b := (hi - lo + 1)) (by omega)
  have hr2 := Int.emod_lt_of_pos (x.tmod (hi - lo + 1)) (b := (hi - lo + 1)) (by omega)
  go_enter Tryz.func32, Tryz.ntmps32
  go_wp2
  go_ret
  exact ⟨rfl, rfl⟩
set_option maxRecDepth 100000 in
set_option maxHeartbeats 4000000 in
theorem queuesK_any (w : World) (ht : Tabs w) : Calls Tryz.prog 16 #[] w (fun e w' => e = .returned (.bool true) ∧ Below w.heap.size w w') := by
  have HT := Lib.hid ht
  have HNW := Lib.hid (new_any w ht)
  clear ht
  go_enter Tryz.func16, Tryz.ntmps16
  go_wp2_with fail
  refine HNW.out.mono ?_
  rintro e w2 ⟨rfl, hq2, hb2⟩
  have HP := Lib.hid (put_one w2 w.heap.size w.heap.size hq2 hb2.size (HT.out.below hb2))
  have HB2 := Lib.hid hb2
  have hz2 := hb2.size
  clear hq2 hb2
  go_wp2_with fail
  refine HP.out.mono ?_
  rintro e w3 ⟨vj, vw, rfl, hq3, hb3⟩
  have HB3 := Lib.hid (HB2.out.trans hb3)
  have HW := Lib.hid (writes_any w.heap.size w.heap.size oneQ vj vw w3 hq3 (by rw [one_writes.1]; decide))
  have HQ3 := Lib.hid hq3
  clear hq3 hb3 HP
  go_wp2_with fail
  refine HW.out.mono ?_
  rintro e w4 ⟨v4, rfl, hv4, hb4⟩
  obtain ⟨oa, c4, rfl, _, hf4⟩ := hv4.flat (fun _ => rfl)
  obtain ⟨bw, offw, rfl, j0, _⟩ := hf4.wr (i := 0) (by rw [one_writes.1]; decide)
  rw [one_writes.2.2, Nat.zero_mul, Nat.add_zero] at j0
  rw [one_writes.1]
  have HB4 := Lib.hid (HB3.out.trans (hb4.mono HB3.out.size))
  have HJ := Lib.hid (jobs_any w.heap.size w.heap.size oneQ vj vw w4 (HQ3.out.below hb4) (by rw [one_writes.2.1]; decide))
  clear hv4 hb4 hf4 HW HQ3
  go_wp2_with fail
  refine HJ.out.mono ?_
  rintro e w5 ⟨v5, rfl, hv5, hb5⟩
  obtain ⟨oj, c5, rfl, _, hf5⟩ := hv5.flat (fun _ => rfl)
  rw [List.length_map, one_writes.2.1]
  have HB5 := Lib.hid (HB4.out.trans (hb5.mono HB4.out.size))
  clear hv5 hb5 hf5 HJ
  go_wp2
  go_ret
  exact ⟨rfl, HB5.out⟩
end Go.Proofs.YtnnnihjagjfkdaaGreatDoor
