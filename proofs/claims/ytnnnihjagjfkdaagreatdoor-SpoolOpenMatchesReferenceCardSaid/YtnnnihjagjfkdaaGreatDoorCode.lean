/-
  The walks of filter.Check, codingOf, Encode at the text coding; spool.coded. Own text.
-/
import Derived.Test.YtnnnihjagjfkdaaGreatDoorEnc
namespace Go.Proofs.YtnnnihjagjfkdaaGreatDoor
open Go.RowKit
set_option linter.unusedVariables false
theorem str_app (a b : List UInt8) : (⟨a.toArray⟩ : ByteArray) ++ (⟨b.toArray⟩ : ByteArray) = ⟨(a ++ b).toArray⟩ := by
  apply ByteArray.ext
  rw [ByteArray.data_append]
  exact List.append_toArray a b
/-- The chain of one step: the text coding. -/
def ChainAt (w : World) (g : Nat) : Prop := w.cell? ⟨g, 0, none⟩ = some (.int .i64 4) ∧ w.cell? ⟨g, 1, none⟩ = some (.int .i64 0)
theorem ChainAt.below {w w' : World} {g : Nat} (h : ChainAt w g) (hb : Below w.heap.size w w') : ChainAt w' g := ⟨keepCell hb h.1, keepCell hb h.2⟩
set_option maxRecDepth 100000 in
set_option maxHeartbeats 2000000 in
theorem check_one (g : Nat) (w : World) (hc : ChainAt w g) :
    Calls Tryz.prog 63 #[.slice (some ⟨g, 0, none⟩) 1 1] w fun e w' => e = .returned (.int .i64 0) ∧ Below w.heap.size w w' := by
  have HC := Lib.hid hc
  have hg := cell?_lt hc.1
  simp only at hg
  clear hc
  go_enter Tryz.func63, Tryz.ntmps63
  go_wp2
  go_loopw [10] (fun i wr => ∃ k : Nat, k ≤ 1 ∧ i = .int .i64 k ∧ Hid (Below w.heap.size w wr)) (fun i _ => 1 - (intOf i).toNat)
  case atStart => exact ⟨0, by omega, rfl, Below.refl _ _⟩
  case round =>
    obtain ⟨k, hk, rfl, HB⟩ := hrel
    by_cases hlt : k < 1
    · obtain rfl : k = 0 := by omega
      have c0 := keepCell HB.out HC.out.1
      have c1 := keepCell HB.out HC.out.2
      go_wp2
      go_roundw
      case rel => exact ⟨1, by omega, by go_num, balloc HB.out _⟩
      case measure => simp [intOf]
    · obtain rfl : k = 1 := by omega
      go_wp2
      go_ret
      exact ⟨rfl, HB.out⟩
set_option maxRecDepth 100000 in
set_option maxHeartbeats 2000000 in
theorem coding_one (w : World) :
    Calls Tryz.prog 64 #[.agg #[.int .i64 4, .int .i64 0]] w fun e w' => e = .returned (.iface 146 (.agg #[])) ∧ Below w.heap.size w w' := by
  go_enter Tryz.func64, Tryz.ntmps64
  go_wp2
  go_ret
  exact ⟨rfl, balloc (Below.refl _ _) _⟩
theorem sclone_any (s : ByteArray) (w : World) (hs : s.size ≤ 281474976710656) :
    Calls Tryz.prog 65 #[.string s] w fun e w' => e = .returned (.string s) ∧ Below w.heap.size w w' := by
  have HC := Lib.hid (Tryz.stringslite_Clone s w hs)
  go_enter Tryz.func65, Tryz.ntmps65
  go_wp2_with (go_at_call 84; refine HC.out.mono ?_; rintro e w' ⟨rfl, hb⟩; have HB := Lib.hid hb; clear hb)
  go_ret
  exact ⟨rfl, HB.out⟩
set_option maxRecDepth 100000 in
set_option maxHeartbeats 2000000 in
theorem encode_one (g : Nat) (s : ByteArray) (w : World) (hc : ChainAt w g) (hs : s.size ≤ 16384) :
    Calls Tryz.prog 46 #[.slice (some ⟨g, 0, none⟩) 1 1, .string s] w fun e w' => e = .returned (.tuple #[.string ⟨(encText s.data.toList).toArray⟩, .int .i64 0]) ∧ Below w.heap.size w w' := by
  have HC := Lib.hid hc
  have HCK := Lib.hid (check_one g w hc)
  clear hc
  go_enter Tryz.func46, Tryz.ntmps46
  go_wp2_with fail
  refine HCK.out.mono ?_
  rintro e w2 ⟨rfl, hb2⟩
  have HB2 := Lib.hid hb2
  clear hb2
  go_wp2_with fail
  go_loopw [1, 19] (fun v i wr => ∃ k : Nat, k ≤ 1 ∧ i = .int .i64 k ∧ v = .string (if k = 0 then s else ⟨(encText s.data.toList).toArray⟩) ∧ Hid (Below w.heap.size w wr)) (fun _ i _ => 1 - (intOf i).toNat)
  case atStart => exact ⟨0, by omega, rfl, rfl, HB2.out⟩
  case round =>
    clear HB2
    obtain ⟨k, hk, rfl, rfl, HB⟩ := hrel
    by_cases hlt : k < 1
    · obtain rfl : k = 0 := by omega
      have c0 := keepCell HB.out HC.out.1
      have c1 := keepCell HB.out HC.out.2
      rw [if_pos rfl]
      go_wp2_with fail
      refine (coding_one _).mono ?_
      rintro e w3 ⟨rfl, hb3⟩
      have HB3 := Lib.hid (bthen (balloc HB.out _) hb3)
      clear hb3 c0 c1
      go_wp2_with fail
      refine (enc_any s _ hs).mono ?_
      rintro e w4 ⟨rfl, hb4⟩
      have HB4 := Lib.hid (bthen HB3.out hb4)
      clear hb4
      go_wp2
      go_roundw
      case rel => exact ⟨1, by omega, by go_num, rfl, HB4⟩
      case measure => simp [intOf]
    · obtain rfl : k = 1 := by omega
      rw [if_neg (by omega)]
      go_wp2_with fail
      refine (sclone_any _ _ (by
        have h := encText_len s.data.toList
        have e : (⟨(encText s.data.toList).toArray⟩ : ByteArray).size = (encText s.data.toList).length := by simp [ByteArray.size]
        have e2 : s.data.toList.length = s.size := by simp
        omega)).mono ?_
      rintro e w4 ⟨rfl, hb4⟩
      have HB4 := Lib.hid (bthen HB.out hb4)
      clear hb4
      go_wp2
      go_ret2
      exact ⟨rfl, HB4.out⟩
/-- The text as it stands in a record. -/
def codedV (l : List UInt8) : List UInt8 := 61 :: encText l
theorem codedV_len (l : List UInt8) : (codedV l).length ≤ 5 * ((l.length + 3) / 4) + 1 := by
  have := encText_len l
  simp only [codedV, List.length_cons]
  omega
set_option maxRecDepth 100000 in
set_option maxHeartbeats 2000000 in
theorem coded_any (s : ByteArray) (w : World) (hs : s.size ≤ 16384) :
    Calls Tryz.prog 30 #[.string s] w fun e w' => e = .returned (.string ⟨(codedV s.data.toList).toArray⟩) ∧ Below w.heap.size w w' := by
  have hb := balloc (Below.refl _ w) (.cells #[.int .i64 4, .int .i64 0] 99)
  have hc : ChainAt (w.alloc (.cells #[.int .i64 4, .int .i64 0] 99)) w.heap.size := by
    have h := heap_alloc_new w (.cells #[.int .i64 4, .int .i64 0] 99)
    exact ⟨by rw [cell_of_row _ w.heap.size 0 _ _ (0, 0) h]; rfl, by rw [cell_of_row _ w.heap.size 1 _ _ (0, 0) h]; rfl⟩
  have HE := Lib.hid (encode_one w.heap.size s _ hc hs)
  have HB := Lib.hid hb
  clear hb hc
  go_enter Tryz.func30, Tryz.ntmps30
  go_wp2_with fail
  refine HE.out.mono ?_
  rintro e w2 ⟨rfl, hb2⟩
  have HB2 := Lib.hid (bthen HB.out hb2)
  clear hb2
  have hz : (encText s.data.toList).length ≤ 20500 := by
    have h := encText_len s.data.toList
    have e2 : s.data.toList.length = s.size := by simp
    omega
  have HCV : Hid (codedV s.data.toList = 61 :: encText s.data.toList) := rfl
  generalize encText s.data.toList = l at *
  go_wp2
  go_ret
  refine ⟨?_, HB2.out⟩
  rw [HCV.out]
  exact congrArg (fun x => Ending.returned (Value.string x)) (str_app [61] l)
end Go.Proofs.YtnnnihjagjfkdaaGreatDoor
