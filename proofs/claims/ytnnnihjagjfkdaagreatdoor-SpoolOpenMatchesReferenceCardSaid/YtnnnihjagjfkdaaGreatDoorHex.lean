/-
  Bits and checksums: plain. No program in sight. The walk of filter.Sum. The walk of filter.Hex. Own text.
-/
import Derived.Laws.Closers25b
import Derived.Laws.Bits64b
import Derived.Test.YtnnnihjagjfkdaaGreatDoorRows
import Derived.Test.YtnnnihjagjfkdaaGreatDoorShelf
import Derived.Test.YtnnnihjagjfkdaaGreatDoorBase
import Derived.Lib.LaidTab
import Derived.IntWalk
import Derived.WalkSpells
import Derived.WalkLawsBesides
import Derived.Deep.CutBlock
import Derived.Handy
import Derived.RegionTactic
import Derived.BigRegion
namespace Go.Proofs.YtnnnihjagjfkdaaGreatDoor
set_option linter.unusedVariables false
theorem bv32 {a : Int} (h0 : 0 ≤ a) (h1 : a < 4294967296) : (BitVec.ofInt 32 a).toNat = a.toNat := by
  obtain ⟨n, rfl⟩ := Int.eq_ofNat_of_zero_le h0
  rw [BitVec.ofInt_natCast, BitVec.toNat_ofNat]
  simp only [Int.toNat_natCast]
  exact Nat.mod_eq_of_lt (by omega)
theorem bits_and15 {x : Int} (h0 : 0 ≤ x) (h1 : x < 4294967296) : bits .and .u32 x 15 = ((x.toNat % 16 : Nat) : Int) := by
  show IntKind.u32.wrap ((BitVec.ofInt 32 x &&& BitVec.ofInt 32 15).toNat : Int) = _
  rw [BitVec.toNat_and, bv32 h0 h1, bv32 (by omega) (by omega)]
  have e : x.toNat &&& (15 : Int).toNat = x.toNat % 16 := Nat.and_two_pow_sub_one_eq_mod x.toNat 4
  rw [e, IntKind.wrap_u32]
  omega
/-- The table of the checksum. -/
def stepsTab : List Int := [0, 498536548, 997073096, 651767980, 1994146192, 1802195444, 1303535960, 1342533948, 3988292384, 4027552580, 3604390888, 3412177804, 2607071920, 2262029012, 2685067896, 3183342108]
def sumHalf (x : Int) : Int := bits .xor .u32 (x / 16) (stepsTab.getD (x.toNat % 16) 0)
def sumByte (r : Int) (c : UInt8) : Int := sumHalf (sumHalf (bits .xor .u32 r (c.toNat : Int)))
/-- The register behind the bytes. -/
def sumFrom (r : Int) (l : List UInt8) : Int := l.foldl sumByte r
theorem sumHalf_bd (x : Int) : 0 ≤ sumHalf x ∧ sumHalf x < 4294967296 := by
  unfold sumHalf
  have h1 := bits_lo_u32 .xor (x / 16) (stepsTab.getD (x.toNat % 16) 0)
  have h2 := bits_hi_u32 .xor (x / 16) (stepsTab.getD (x.toNat % 16) 0)
  omega
theorem sumByte_bd (r : Int) (c : UInt8) : 0 ≤ sumByte r c ∧ sumByte r c < 4294967296 := sumHalf_bd _
theorem sumFrom_bd (l : List UInt8) : ∀ (r : Int), 0 ≤ r → r < 4294967296 → 0 ≤ sumFrom r l ∧ sumFrom r l < 4294967296 := by
  induction l with
  | nil => intro r h0 h1; exact ⟨h0, h1⟩
  | cons c l ih => intro r h0 h1; exact ih _ (sumByte_bd r c).1 (sumByte_bd r c).2
theorem sumFrom_snoc (r : Int) (l : List UInt8) (c : UInt8) : sumFrom r (l ++ [c]) = sumByte (sumFrom r l) c := by
  unfold sumFrom
  rw [List.foldl_append]
  rfl
/-- The checksum. -/
def sumV (l : List UInt8) : Int := bits .xor .u32 IntKind.u32.max (sumFrom 4294967295 l)
theorem sumV_bd (l : List UInt8) : 0 ≤ sumV l ∧ sumV l < 4294967296 := by
  have h1 := bits_lo_u32 .xor IntKind.u32.max (sumFrom 4294967295 l)
  have h2 := bits_hi_u32 .xor IntKind.u32.max (sumFrom 4294967295 l)
  unfold sumV
  omega
theorem take_snocB (s : ByteArray) (k : Nat) (h : k < s.size) : s.data.toList.take (k + 1) = s.data.toList.take k ++ [s[k]] := by
  rw [List.take_succ_eq_append_getElem (by simpa using h)]
  rfl
end Go.Proofs.YtnnnihjagjfkdaaGreatDoor
namespace Go.Proofs.YtnnnihjagjfkdaaGreatDoor
open Go.RowKit
set_option linter.unusedVariables false
def StepsAt (w : World) : Prop := ∀ i, i < 16 → w.cell? ⟨0, i, none⟩ = some (.int .u32 (stepsTab.getD i 0))
theorem StepsAt.below {w w' : World} (h : StepsAt w) (hb : Below w.heap.size w w') : StepsAt w' := fun i hi => keepCell hb (h i hi)
set_option maxHeartbeats 1000000 in
theorem sum_any (s : ByteArray) (w : World) (hs : s.size ≤ maxLen) (ht : StepsAt w) :
    Calls Tryz.prog 49 #[.string s] w fun e w' => e = .returned (.int .u32 (sumV s.data.toList)) ∧ w = w' := by
  unfold maxLen at hs
  have HT := Lib.hid ht
  clear ht
  go_enter Tryz.func49, Tryz.ntmps49
  go_wp2
  go_loop [3, 7] (fun r i => ∃ (k : Nat) (x : Int), k ≤ s.size ∧ i = .int .i64 k ∧ r = .int .u32 x ∧ Hid (x = sumFrom 4294967295 (s.data.toList.take k)) ∧ 0 ≤ x ∧ x < 4294967296) (fun _ i => s.size - (intOf i).toNat)
  case atStart => exact ⟨0, _, by omega, rfl, rfl, rfl, by omega, by omega⟩
  case round =>
    obtain ⟨k, x, hk, rfl, rfl, hx, h0, h1⟩ := hrel
    by_cases hlt : k < s.size
    · have hc : (s[k].toNat : Int) < 256 := by have := s[k].toNat_lt; omega
      go_upto_region 6 with fail
      obtain ⟨y, hy⟩ : ∃ y, y = bits .xor .u32 x (s[k].toNat : Int) := ⟨_, rfl⟩
      rw [← hy]
      have y0 : 0 ≤ y := by rw [hy]; exact bits_lo_u32 _ _ _
      have y1 : y < 4294967296 := by have := bits_hi_u32 .xor x (s[k].toNat : Int); omega
      obtain ⟨j, hj⟩ : ∃ j, j = y.toNat % 16 := ⟨_, rfl⟩
      have e1 : bits .and .u32 y 15 = (j : Int) := by rw [hj]; exact bits_and15 y0 y1
      have j16 : j < 16 := by omega
      have c1 := HT.out j j16
      obtain ⟨T, hT⟩ : ∃ T, T = stepsTab.getD j 0 := ⟨_, rfl⟩
      rw [← hT] at c1
      have HTJ := Lib.hid hT
      have j0 : (0 : Int) ≤ (j : Int) := by omega
      have j1 : (j : Int) < 16 := by omega
      have HY := Lib.hid hy
      have HJ := Lib.hid hj
      clear hy hj hc hT
      go_upto_region 7 with fail
      obtain ⟨z, hz⟩ : ∃ z, z = bits .xor .u32 (y / 16) T := ⟨_, rfl⟩
      rw [← hz]
      have z0 : 0 ≤ z := by rw [hz]; exact bits_lo_u32 _ _ _
      have z1 : z < 4294967296 := by have := bits_hi_u32 .xor (y / 16) T; omega
      obtain ⟨i, hi⟩ : ∃ i, i = z.toNat % 16 := ⟨_, rfl⟩
      have e2 : bits .and .u32 z 15 = (i : Int) := by rw [hi]; exact bits_and15 z0 z1
      have i16 : i < 16 := by omega
      have c2 := HT.out i i16
      obtain ⟨U, hU⟩ : ∃ U, U = stepsTab.getD i 0 := ⟨_, rfl⟩
      rw [← hU] at c2
      have HUI := Lib.hid hU
      have i0 : (0 : Int) ≤ (i : Int) := by omega
      have i1 : (i : Int) < 16 := by omega
      have HZ := Lib.hid hz
      have HI := Lib.hid hi
      clear hz hi hU e1 c1
      go_wp2
      go_round
      case rel =>
        refine ⟨k + 1, _, by omega, by go_num, rfl, ?_, bits_lo_u32 _ _ _, by have := bits_hi_u32 .xor (z / 16) U; omega⟩
        show _ = _
        rw [take_snocB s k hlt, sumFrom_snoc, ← hx.out, HUI.out, HI.out, HZ.out, HTJ.out, HJ.out, HY.out]
        rfl
      case measure => simp [intOf]; omega
    · obtain rfl : s.size = k := by omega
      go_wp2
      go_ret
      refine ⟨?_, rfl⟩
      have e : s.data.toList.take s.size = s.data.toList := List.take_of_length_le (by simp)
      rw [e] at hx
      unfold sumV
      rw [← hx.out]
      rfl
end Go.Proofs.YtnnnihjagjfkdaaGreatDoor
namespace Go.Proofs.YtnnnihjagjfkdaaGreatDoor
open Go.RowKit
set_option linter.unusedVariables false
/-- The sixteen digits. -/
def hexTab : List UInt8 := [48, 49, 50, 51, 52, 53, 54, 55, 56, 57, 97, 98, 99, 100, 101, 102]
/-- Digit i of eight. -/
def hexC (x : Int) (i : Nat) : UInt8 := hexTab.getD ((x / 2 ^ (28 - 4 * i)).toNat % 16) 0
def hexV (x : Int) : List UInt8 := (List.range 8).map (hexC x)
theorem hexV_len (x : Int) : (hexV x).length = 8 := by simp [hexV]
def hexN (x : Int) (k i : Nat) : Int := if i < k then ((hexC x i).toNat : Int) else 0
set_option maxRecDepth 100000 in
set_option maxHeartbeats 1000000 in
theorem hex_any (x : Int) (w : World) (h0 : 0 ≤ x) (h1 : x < 4294967296) :
    Calls Tryz.prog 48 #[.int .u32 x] w fun e w' => e = .returned (.string ⟨(hexV x).toArray⟩) ∧ Below w.heap.size w w' := by
  go_enter Tryz.func48, Tryz.ntmps48
  go_wp2
  have HM : Hid (FTab (Value.int .u8) (w.alloc (.cells #[.int .u8 0, .int .u8 0, .int .u8 0, .int .u8 0, .int .u8 0, .int .u8 0, .int .u8 0, .int .u8 0] 126)) w.heap.size 8 (hexN x 0)) := by
    refine ⟨fun i hi => ?_, fun o => ?_⟩
    · have hb := heap_alloc_new w (.cells #[.int .u8 0, .int .u8 0, .int .u8 0, .int .u8 0, .int .u8 0, .int .u8 0, .int .u8 0, .int .u8 0] 126)
      rw [cell_of_row _ w.heap.size i _ _ (0, 0) hb]
      match i, hi with
      | 0, _ => rfl
      | 1, _ => rfl
      | 2, _ => rfl
      | 3, _ => rfl
      | 4, _ => rfl
      | 5, _ => rfl
      | 6, _ => rfl
      | 7, _ => rfl
    · unfold World.frozen?
      rw [heap_alloc_new]
      simp
  have HB := Lib.hid (balloc (Below.refl _ w) (.cells #[.int .u8 0, .int .u8 0, .int .u8 0, .int .u8 0, .int .u8 0, .int .u8 0, .int .u8 0, .int .u8 0] 126))
  generalize w.alloc (.cells #[.int .u8 0, .int .u8 0, .int .u8 0, .int .u8 0, .int .u8 0, .int .u8 0, .int .u8 0, .int .u8 0] 126) = w1 at *
  go_loopw [5] (fun i wr => ∃ k : Nat, k ≤ 8 ∧ i = .int .i64 k ∧ Hid (FTab (Value.int .u8) wr w.heap.size 8 (hexN x k) ∧ Below w.heap.size w wr)) (fun i _ => 8 - (intOf i).toNat)
  case atStart => exact ⟨0, by omega, rfl, HM.out, HB.out⟩
  case round =>
    obtain ⟨k, hk, rfl, HR⟩ := hrel
    by_cases hlt : k < 8
    · obtain ⟨q, hq⟩ : ∃ q, q = x / 2 ^ (28 - 4 * k) := ⟨_, rfl⟩
      have e0 : (28 - 4 * (k : Int)).toNat = 28 - 4 * k := by omega
      have q0 : 0 ≤ q := by rw [hq]; exact Int.ediv_nonneg h0 (Int.le_of_lt (Int.pow_pos (by omega)))
      have q1 : q < 4294967296 := by
        have : q ≤ x := by rw [hq]; exact Int.ediv_le_self _ h0
        omega
      have eq1 : x / 2 ^ (28 - 4 * k) = q := hq.symm
      obtain ⟨j, hj⟩ : ∃ j, j = q.toNat % 16 := ⟨_, rfl⟩
      have e1 : bits .and .u32 q 15 = (j : Int) := by rw [hj]; exact bits_and15 q0 q1
      have j16 : j < 16 := by omega
      have j0 : (0 : Int) ≤ (j : Int) := by omega
      have j1 : (j : Int) < 16 := by omega
      have f1 : ∃ v, wr.cell? ⟨w.heap.size, k, none⟩ = some (.int .u8 v) := ⟨_, HR.out.1.at' k hlt⟩
      obtain ⟨v, f1⟩ := f1
      have f2 := HR.out.1.fz k
      have HE : Hid (∀ y : Int, y = ((hexC x k).toNat : Int) → FTab (Value.int .u8) (wr.setCell ⟨w.heap.size, k, none⟩ (.int .u8 y)) w.heap.size 8 (hexN x (k + 1)) ∧ Below w.heap.size w (wr.setCell ⟨w.heap.size, k, none⟩ (.int .u8 y))) := fun y hy => by
        refine ⟨(HR.out.1.set hlt y).congr fun i hi => ?_, HR.out.2.setCell (p := ⟨w.heap.size, k, none⟩) (Nat.le_refl _) _⟩
        unfold hexN
        by_cases e : i = k
        · subst e
          rw [if_pos rfl, if_pos (by omega), hy]
        · rw [if_neg e]
          by_cases e2 : i < k
          · rw [if_pos e2, if_pos (by omega)]
          · rw [if_neg e2, if_neg (by omega)]
      have HC : Hid (hexC x k = hexTab.getD j 0) := by
        show hexTab.getD ((x / 2 ^ (28 - 4 * k)).toNat % 16) 0 = _
        rw [eq1, hj]
      clear hq hj
      go_wp2
      go_roundw
      case rel =>
        refine ⟨k + 1, by omega, by go_num, HE.out _ ?_⟩
        rw [HC.out]
        simp [hexTab, List.getD_eq_getElem?_getD, j16]
        rfl
      case measure => simp [intOf]; omega
    · obtain rfl : k = 8 := by omega
      have HF := HR.out.1
      have hcv : ∀ dst, Tryz.prog.underlying dst = some .string → (convert 121 dst (.slice (some ⟨w.heap.size, 0, none⟩) 8 8)).run Tryz.prog wr = .ok (.string ⟨(hexV x).toArray⟩) wr := fun dst hd => by
        have h := run_convert_bytes_back (P := Tryz.prog) wr 121 dst 5 ⟨w.heap.size, 0, none⟩ 8 (hexV x) Tryz.underlying121 Tryz.underlying5 hd (fun j hj => by
          rw [add_none, Nat.zero_add]
          have hj8 : j < 8 := by rw [hexV_len] at hj; exact hj
          have h1 := HF.at' j hj8
          simpa [hexN, hj8, hexV] using h1)
        rw [hexV_len] at h
        exact h
      have hcv9 := hcv 9 Tryz.underlying9
      clear HF hcv
      go_wp2
      go_ret
      exact ⟨rfl, HR.out.2⟩
end Go.Proofs.YtnnnihjagjfkdaaGreatDoor
