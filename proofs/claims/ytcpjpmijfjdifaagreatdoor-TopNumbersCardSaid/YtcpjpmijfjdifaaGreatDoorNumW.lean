/-
  The walks of vary.check, vary.Number and vary.Verify. Own text.
-/
import Derived.Test.YtcpjpmijfjdifaaGreatDoorNumbP
import Derived.Test.YtcpjpmijfjdifaaGreatDoorCycV
import Derived.Test.YtcpjpmijfjdifaaGreatDoorShelf
import Derived.WalkSmall
import Derived.Lib.ItoaLen
import Derived.Lib.AppendIntMem
import Derived.Lib.AtoiErrMem
import Derived.Laws.RangeString
namespace Go.Proofs.YtcpjpmijfjdifaaGreatDoor
open Go.RowKit
set_option linter.unusedVariables false
theorem str_app (a b : List UInt8) : (⟨a.toArray⟩ : ByteArray) ++ (⟨b.toArray⟩ : ByteArray) = ⟨(a ++ b).toArray⟩ := by
  apply ByteArray.ext
  simp
def strB (l : List UInt8) : ByteArray := ⟨l.toArray⟩
theorem strB_size (l : List UInt8) : (strB l).size = l.length := by simp [strB, ByteArray.size]
theorem strB_data (l : List UInt8) : (strB l).data.toList = l := rfl
theorem strB_app (a b : List UInt8) : strB a ++ strB b = strB (a ++ b) := str_app a b
theorem take_snocB (s : ByteArray) (k : Nat) (h : k < s.size) : s.data.toList.take (k + 1) = s.data.toList.take k ++ [s[k]] := by
  have hl : k < s.data.toList.length := by simpa using h
  rw [List.take_succ_eq_append_getElem hl]
  rfl
theorem extractL (s : ByteArray) (a b : Nat) : (s.extract a b).data.toList = (s.data.toList.drop a).take (b - a) := by
  simp [ByteArray.data_extract, List.extract_eq_take_drop]
/-- Every byte is a digit. -/
def Digs (s : ByteArray) : Prop := ∀ b ∈ s.data.toList, IsDig b
theorem Digs.at {s : ByteArray} (h : Digs s) {k : Nat} (hk : k < s.size) : 48 ≤ s[k].toNat ∧ s[k].toNat ≤ 57 := by
  have hl : k < s.data.toList.length := by simpa using hk
  exact h _ (List.getElem_mem hl)
set_option maxHeartbeats 2000000 in
theorem vcheck_any (s : ByteArray) (w : World) (hs : s.size ≤ 1000) (hd : Digs s) :
    Calls Tryz.prog 12 #[.string s] w fun e w' => e = .returned (.int .i64 (chkV s.data.toList : Nat)) ∧ w = w' := by
  have HD := Lib.hid hd
  clear hd
  go_enter Tryz.func12, Tryz.ntmps12
  go_wp2
  go_loop [3, 7] (fun r i => ∃ (k x : Nat), k ≤ s.size ∧ i = .int .i64 k ∧ r = .int .i64 x ∧ Hid (x = remV (s.data.toList.take k)) ∧ x < 97) (fun _ i => s.size - (intOf i).toNat)
  case atStart => exact ⟨0, 0, by omega, rfl, rfl, rfl, by omega⟩
  case round =>
    obtain ⟨k, x, hk, rfl, rfl, hx, h1⟩ := hrel
    by_cases hlt : k < s.size
    · have hb := HD.out.at hlt
      obtain ⟨d, hd⟩ : ∃ d : Nat, s[k].toNat = d + 48 := ⟨s[k].toNat - 48, by omega⟩
      have hd9 : d ≤ 9 := by omega
      have HDD := Lib.hid hd
      have x1 : IntKind.i64.wrap ((x : Int) * 10) = (x : Int) * 10 := IntWalk.i64_in _ (by omega)
      have x2 : IntKind.u8.wrap ((s[k].toNat : Int) - 48) = (d : Int) := by rw [hd]; show ((d + 48 : Nat) - 48 : Int) % 256 = _; omega
      have x4 : IntKind.i64.wrap ((x : Int) * 10 + (d : Int)) = (x : Int) * 10 + (d : Int) := IntWalk.i64_in _ (by omega)
      have x5 : IntKind.i64.wrap (((x : Int) * 10 + (d : Int)).tmod 97) = (((x * 10 + d) % 97 : Nat) : Int) := by
        rw [Int.tmod_eq_emod_of_nonneg (by omega)]
        rw [IntWalk.i64_in _ (by omega)]
        omega
      obtain ⟨y, hy⟩ : ∃ y, y = (x * 10 + d) % 97 := ⟨_, rfl⟩
      rw [← hy] at x5
      have hy1 : y < 97 := by omega
      have HY := Lib.hid hy
      clear hy hb hd
      go_wp2
      go_round
      case rel =>
        refine ⟨k + 1, y, by omega, by go_num, congrArg (Value.int .i64) (by have := HY.out; omega), ?_, hy1⟩
        show _ = _
        rw [take_snocB s k hlt, remV_snoc, ← hx.out, HDD.out, HY.out]
        congr 1
      case measure => simp [intOf]; omega
    · obtain rfl : s.size = k := by omega
      go_wp2
      go_ret
      refine ⟨?_, rfl⟩
      have e : s.data.toList.take s.size = s.data.toList := List.take_of_length_le (by simp)
      rw [e] at hx
      have e2 : ((98 - x * 100 % 97 : Nat) : Int) = 98 - (x : Int) * 100 % 97 := by omega
      unfold chkV
      rw [← hx.out, e2]
      rfl
/-- The table that Itoa reads. -/
def TabP (w : World) : Prop := Lib.TabIs Tryz.prog w "internal/strconv.uint64pow10" .u64 Lib.pow10Tab
theorem gPow : Tryz.prog.globalNamed "internal/strconv.uint64pow10" = some 2 := by kernel_rfl
theorem TabP.lt {w : World} (h : TabP w) : 2 < w.heap.size := by
  have := cell?_lt (Lib.TabIs.cell h gPow 0 (by decide))
  exact this
theorem TabP.below {w w' : World} (h : TabP w) (hb : Below w.heap.size w w') : TabP w' := var?_below hb gPow h.lt h
def RetStr (l : List UInt8) (w : World) (e : Ending) (w' : World) : Prop := e = .returned (.string (strB l)) ∧ Below w.heap.size w w'
theorem itoa_any (n : Nat) (w : World) (h1 : n ≤ 9223372036854775807) (ht : TabP w) :
    Calls Tryz.prog 10 #[.int .i64 n] w (RetStr (Lib.decDigits n) w) := by
  refine (Tryz.strconv_Itoa n (by omega) (by omega) w ht).mono ?_
  rintro e w' ⟨rfl, k, os, rfl⟩
  rw [itoa_nat]
  exact ⟨rfl, Lib.below_grow _ _ (Nat.le_refl _) _ _⟩
theorem repeat_zero (c : Nat) : Lib.repeatL [48] c = List.replicate c 48 := by
  induction c with
  | zero => rfl
  | succ c ih => rw [List.replicate_succ, ← ih]; rfl
theorem rep_any (i : Int) (c : Nat) (hi : i = c) (w : World) (hc : c ≤ 12) : Calls Tryz.prog 11 #[.string ⟨#[48]⟩, .int .i64 i] w (RetStr (List.replicate c 48) w) := by
  subst hi
  refine (Tryz.strings_Repeat ⟨#[48]⟩ c w (by omega) (by show 1 * c ≤ _; omega)).mono ?_
  rintro e w' ⟨rfl, hb⟩
  rw [show (⟨#[48]⟩ : ByteArray).data.toList = [48] from rfl, repeat_zero]
  exact ⟨rfl, hb⟩
theorem Digs.pad (n d : Nat) : Digs (strB (padV n d)) := fun b hb => padV_dig n d b hb
theorem padV_def (n d : Nat) : padV n d = List.replicate (d - (Lib.decDigits n).length) 48 ++ Lib.decDigits n := rfl
theorem numV_def (n d : Nat) : numV n d = padV n d ++ padV (chkV (padV n d)) 2 := rfl
/-- The closure of Verify. -/
def notDig (x : Nat) : Bool := decide (x < 48) || decide (57 < x)
set_option maxHeartbeats 1000000 in
theorem vclo_any (w : World) : PredGrows Tryz.prog 14 #[] notDig w := by
  intro W x hx hb
  show Calls Tryz.prog 14 #[.int .i32 (x : Int)] W _
  unfold notDig
  have hc : x < 48 ∨ (¬ x < 48 ∧ 57 < x) ∨ (¬ x < 48 ∧ ¬ 57 < x) := by omega
  rcases hc with h | ⟨h, h2⟩ | ⟨h, h2⟩
  · go_enter Tryz.func14, Tryz.ntmps14
    go_wp2
    go_ret
    refine ⟨?_, Below.refl _ _⟩
    simp [h]
  · go_enter Tryz.func14, Tryz.ntmps14
    go_wp2
    go_ret
    refine ⟨?_, Below.refl _ _⟩
    simp [h2]
    omega
  · go_enter Tryz.func14, Tryz.ntmps14
    go_wp2
    go_ret
    refine ⟨?_, Below.refl _ _⟩
    simp [h, h2]
    omega
theorem idx_none {s : ByteArray} (h : Digs s) : ∀ (f pos : Nat), Lib.idxFuncFrom notDig true s f pos = -1
  | 0, pos => rfl
  | f + 1, pos => by
    unfold Lib.idxFuncFrom
    split
    · next hp =>
      have hb := h.at hp
      rw [decode_ascii s pos hp (by omega)]
      have e : notDig (s[pos].toNat) = false := by unfold notDig; rw [decide_eq_false (by omega), decide_eq_false (by omega)]; rfl
      simp only [e]
      rw [if_neg (by decide)]
      exact idx_none h f _
    · rfl
theorem vcontains_any {s : ByteArray} (h : Digs s) (w : World) : Calls Tryz.prog 13 #[.string s, .func (.func 14) #[] #[]] w fun e w' => e = .returned (.bool false) ∧ Below w.heap.size w w' := by
  have hC := Tryz.strings_ContainsFunc_grows 14 #[] (enters_of Tryz.func14 (by kernel_rfl) rfl) notDig s w (vclo_any w)
  rw [show Lib.idxFunc notDig true s = -1 from idx_none h _ _] at hC
  exact hC
end Go.Proofs.YtcpjpmijfjdifaaGreatDoor
