/-
  The walk of filter.Sum. Own text.
-/
import Derived.Test.YtnnnihjagjfkdaaGreatDoorRows
import Derived.Test.YtnnnihjagjfkdaaGreatDoorShelf
import Derived.Test.YtnnnihjagjfkdaaGreatDoorMade
import Derived.Test.YtnnnihjagjfkdaaGreatDoorSumV
import Derived.Lib.LaidTab
import Derived.IntWalk
import Derived.WalkSpells
import Derived.WalkLawsBesides
import Derived.Deep.CutBlock
import Derived.Handy
namespace Go.Proofs.YtnnnihjagjfkdaaGreatDoor
open Go.RowKit
set_option linter.unusedVariables false
def StepsAt (w : World) : Prop := ∀ i, i < 16 → w.cell? ⟨0, i, none⟩ = some (.int .u32 (stepsTab.getD i 0))
theorem StepsAt.below {w w' : World} (h : StepsAt w) (hb : Below w.heap.size w w') : StepsAt w' := fun i hi => keepCell hb (h i hi)
set_option maxHeartbeats 1000000 in
theorem sum_any (s : ByteArray) (w : World) (hs : s.size ≤ maxLen) (ht : StepsAt w) :
    Calls Tryz.prog 49 #[.string s] w fun e w' => e = .returned (.int .u32 (sumV s.data.toList)) ∧ w = w' := by
  unfold maxLen at hs
  have HT := Lib.hid ht
  clear ht
  go_enter Tryz.func49, Tryz.ntmps49
  go_wp2
  go_loop [3, 7] (fun r i => ∃ (k : Nat) (x : Int), k ≤ s.size ∧ i = .int .i64 k ∧ r = .int .u32 x ∧ Hid (x = sumFrom 4294967295 (s.data.toList.take k)) ∧ 0 ≤ x ∧ x < 4294967296) (fun _ i => s.size - (intOf i).toNat)
  case atStart => exact ⟨0, _, by omega, rfl, rfl, rfl, by omega, by omega⟩
  case round =>
    obtain ⟨k, x, hk, rfl, rfl, hx, h0, h1⟩ := hrel
    by_cases hlt : k < s.size
    · have hc : (s[k].toNat : Int) < 256 := by have := s[k].toNat_lt; omega
      go_upto_region 6 with fail
      obtain ⟨y, hy⟩ : ∃ y, y = bits .xor .u32 x (s[k].toNat : Int) := ⟨_, rfl⟩
      rw [← hy]
      have y0 : 0 ≤ y := by rw [hy]; exact bits_lo_u32 _ _ _
      have y1 : y < 4294967296 := by have := bits_hi_u32 .xor x (s[k].toNat : Int); omega
      obtain ⟨j, hj⟩ : ∃ j, j = y.toNat % 16 := ⟨_, rfl⟩
      have e1 : bits .and .u32 y 15 = (j : Int) := by rw [hj]; exact bits_and15 y0 y1
      have j16 : j < 16 := by omega
      have c1 := HT.out j j16
      obtain ⟨T, hT⟩ : ∃ T, T = stepsTab.getD j 0 := ⟨_, rfl⟩
      rw [← hT] at c1
      have HTJ := Lib.hid hT
      have j0 : (0 : Int) ≤ (j : Int) := by omega
      have j1 : (j : Int) < 16 := by omega
      have HY := Lib.hid hy
      have HJ := Lib.hid hj
      clear hy hj hc hT
      go_upto_region 7 with fail
      obtain ⟨z, hz⟩ : ∃ z, z = bits .xor .u32 (y / 16) T := ⟨_, rfl⟩
      rw [← hz]
      have z0 : 0 ≤ z := by rw [hz]; exact bits_lo_u32 _ _ _
      have z1 : z < 4294967296 := by have := bits_hi_u32 .xor (y / 16) T; omega
      obtain ⟨i, hi⟩ : ∃ i, i = z.toNat % 16 := ⟨_, rfl⟩
      have e2 : bits .and .u32 z 15 = (i : Int) := by rw [hi]; exact bits_and15 z0 z1
      have i16 : i < 16 := by omega
      have c2 := HT.out i i16
      obtain ⟨U, hU⟩ : ∃ U, U = stepsTab.getD i 0 := ⟨_, rfl⟩
      rw [← hU] at c2
      have HUI := Lib.hid hU
      have i0 : (0 : Int) ≤ (i : Int) := by omega
      have i1 : (i : Int) < 16 := by omega
      have HZ := Lib.hid hz
      have HI := Lib.hid hi
      clear hz hi hU e1 c1
      go_wp2
      go_round
      case rel =>
        refine ⟨k + 1, _, by omega, by go_num, rfl, ?_, bits_lo_u32 _ _ _, by have := bits_hi_u32 .xor (z / 16) U; omega⟩
        show _ = _
        rw [take_snocB s k hlt, sumFrom_snoc, ← hx.out, HUI.out, HI.out, HZ.out, HTJ.out, HJ.out, HY.out]
        rfl
      case measure => simp [intOf]; omega
    · obtain rfl : s.size = k := by omega
      go_wp2
      go_ret
      refine ⟨?_, rfl⟩
      have e : s.data.toList.take s.size = s.data.toList := List.take_of_length_le (by simp)
      rw [e] at hx
      unfold sumV
      rw [← hx.out]
      rfl
end Go.Proofs.YtnnnihjagjfkdaaGreatDoor
