/-
  The walk of filter.Hex. Own text.
-/
import Derived.Test.YtnnnihjagjfkdaaGreatDoorSum
import Derived.RegionTactic
import Derived.BigRegion
namespace Go.Proofs.YtnnnihjagjfkdaaGreatDoor
open Go.RowKit
set_option linter.unusedVariables false
/-- The sixteen digits. -/
def hexTab : List UInt8 := [48, 49, 50, 51, 52, 53, 54, 55, 56, 57, 97, 98, 99, 100, 101, 102]
/-- Digit i of eight. -/
def hexC (x : Int) (i : Nat) : UInt8 := hexTab.getD ((x / 2 ^ (28 - 4 * i)).toNat % 16) 0
def hexV (x : Int) : List UInt8 := (List.range 8).map (hexC x)
theorem hexV_len (x : Int) : (hexV x).length = 8 := by simp [hexV]
def hexN (x : Int) (k i : Nat) : Int := if i < k then ((hexC x i).toNat : Int) else 0
set_option maxRecDepth 100000 in
set_option maxHeartbeats 1000000 in
theorem hex_any (x : Int) (w : World) (h0 : 0 ≤ x) (h1 : x < 4294967296) :
    Calls Tryz.prog 48 #[.int .u32 x] w fun e w' => e = .returned (.string ⟨(hexV x).toArray⟩) ∧ Below w.heap.size w w' := by
  go_enter Tryz.func48, Tryz.ntmps48
  go_wp2
  have HM : Hid (FTab (Value.int .u8) (w.alloc (.cells #[.int .u8 0, .int .u8 0, .int .u8 0, .int .u8 0, .int .u8 0, .int .u8 0, .int .u8 0, .int .u8 0] 126)) w.heap.size 8 (hexN x 0)) := by
    refine ⟨fun i hi => ?_, fun o => ?_⟩
    · have hb := heap_alloc_new w (.cells #[.int .u8 0, .int .u8 0, .int .u8 0, .int .u8 0, .int .u8 0, .int .u8 0, .int .u8 0, .int .u8 0] 126)
      rw [cell_of_row _ w.heap.size i _ _ (0, 0) hb]
      match i, hi with
      | 0, _ => rfl
      | 1, _ => rfl
      | 2, _ => rfl
      | 3, _ => rfl
      | 4, _ => rfl
      | 5, _ => rfl
      | 6, _ => rfl
      | 7, _ => rfl
    · unfold World.frozen?
      rw [heap_alloc_new]
      simp
  have HB := Lib.hid (balloc (Below.refl _ w) (.cells #[.int .u8 0, .int .u8 0, .int .u8 0, .int .u8 0, .int .u8 0, .int .u8 0, .int .u8 0, .int .u8 0] 126))
  generalize w.alloc (.cells #[.int .u8 0, .int .u8 0, .int .u8 0, .int .u8 0, .int .u8 0, .int .u8 0, .int .u8 0, .int .u8 0] 126) = w1 at *
  go_loopw [5] (fun i wr => ∃ k : Nat, k ≤ 8 ∧ i = .int .i64 k ∧ Hid (FTab (Value.int .u8) wr w.heap.size 8 (hexN x k) ∧ Below w.heap.size w wr)) (fun i _ => 8 - (intOf i).toNat)
  case atStart => exact ⟨0, by omega, rfl, HM.out, HB.out⟩
  case round =>
    obtain ⟨k, hk, rfl, HR⟩ := hrel
    by_cases hlt : k < 8
    · obtain ⟨q, hq⟩ : ∃ q, q = x / 2 ^ (28 - 4 * k) := ⟨_, rfl⟩
      have e0 : (28 - 4 * (k : Int)).toNat = 28 - 4 * k := by omega
      have q0 : 0 ≤ q := by rw [hq]; exact Int.ediv_nonneg h0 (Int.le_of_lt (Int.pow_pos (by omega)))
      have q1 : q < 4294967296 := by
        have : q ≤ x := by rw [hq]; exact Int.ediv_le_self _ h0
        omega
      have eq1 : x / 2 ^ (28 - 4 * k) = q := hq.symm
      obtain ⟨j, hj⟩ : ∃ j, j = q.toNat % 16 := ⟨_, rfl⟩
      have e1 : bits .and .u32 q 15 = (j : Int) := by rw [hj]; exact bits_and15 q0 q1
      have j16 : j < 16 := by omega
      have j0 : (0 : Int) ≤ (j : Int) := by omega
      have j1 : (j : Int) < 16 := by omega
      have f1 : ∃ v, wr.cell? ⟨w.heap.size, k, none⟩ = some (.int .u8 v) := ⟨_, HR.out.1.at' k hlt⟩
      obtain ⟨v, f1⟩ := f1
      have f2 := HR.out.1.fz k
      have HE : Hid (∀ y : Int, y = ((hexC x k).toNat : Int) → FTab (Value.int .u8) (wr.setCell ⟨w.heap.size, k, none⟩ (.int .u8 y)) w.heap.size 8 (hexN x (k + 1)) ∧ Below w.heap.size w (wr.setCell ⟨w.heap.size, k, none⟩ (.int .u8 y))) := fun y hy => by
        refine ⟨(HR.out.1.set hlt y).congr fun i hi => ?_, HR.out.2.setCell (p := ⟨w.heap.size, k, none⟩) (Nat.le_refl _) _⟩
        unfold hexN
        by_cases e : i = k
        · subst e
          rw [if_pos rfl, if_pos (by omega), hy]
        · rw [if_neg e]
          by_cases e2 : i < k
          · rw [if_pos e2, if_pos (by omega)]
          · rw [if_neg e2, if_neg (by omega)]
      have HC : Hid (hexC x k = hexTab.getD j 0) := by
        show hexTab.getD ((x / 2 ^ (28 - 4 * k)).toNat % 16) 0 = _
        rw [eq1, hj]
      clear hq hj
      go_wp2
      go_roundw
      case rel =>
        refine ⟨k + 1, by omega, by go_num, HE.out _ ?_⟩
        rw [HC.out]
        simp [hexTab, List.getD_eq_getElem?_getD, j16]
        rfl
      case measure => simp [intOf]; omega
    · obtain rfl : k = 8 := by omega
      have HF := HR.out.1
      have hcv : ∀ dst, Tryz.prog.underlying dst = some .string → (convert 121 dst (.slice (some ⟨w.heap.size, 0, none⟩) 8 8)).run Tryz.prog wr = .ok (.string ⟨(hexV x).toArray⟩) wr := fun dst hd => by
        have h := run_convert_bytes_back (P := Tryz.prog) wr 121 dst 5 ⟨w.heap.size, 0, none⟩ 8 (hexV x) Tryz.underlying121 Tryz.underlying5 hd (fun j hj => by
          rw [add_none, Nat.zero_add]
          have hj8 : j < 8 := by rw [hexV_len] at hj; exact hj
          have h1 := HF.at' j hj8
          simpa [hexN, hj8, hexV] using h1)
        rw [hexV_len] at h
        exact h
      have hcv9 := hcv 9 Tryz.underlying9
      clear HF hcv
      go_wp2
      go_ret
      exact ⟨rfl, HR.out.2⟩
end Go.Proofs.YtnnnihjagjfkdaaGreatDoor
