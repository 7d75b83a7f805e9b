/-
  The walk of camera.rows. Own text.
-/
import Derived.Test.YtcadgjhfdolejaaDec
namespace Go.Proofs.Ytcadgjhfdolejaa
open Go.RowKit
set_option linter.unusedVariables false
/-- What Decode answers to a row's widths. -/
def RetRow (good : Bool) (res : List UInt8) (w : World) (e : Ending) (w' : World) : Prop :=
  e = .returned (.tuple #[.string (strB (if good then res else [])), .int .i64 (if good then 0 else 12)]) ∧ Below w.heap.size w w'
/-- A plane's rows read res where they are good. -/
def RowsOk (P : Plane) (W H : Nat) (res : List UInt8) (good : Nat → Bool) : Prop :=
  ∀ y, y < H → ∃ zs, Runs (rowP P y) W 0 zs ∧ ∀ (w : World) (base : Nat) (v : Value), Own w base 3 1 encInt v (stW zs).1 → Calls Try.prog 14 #[v] w (RetRow (good y) res w)
def anyB (good : Nat → Bool) : Nat → Bool
  | 0 => false
  | k + 1 => anyB good k || good k
def RetNum (ok : Bool) (res : List UInt8) (w : World) (e : Ending) (w' : World) : Prop :=
  e = .returned (.tuple #[.string (strB (if ok then res else [])), .int .i64 (if ok then 0 else 8)]) ∧ Below w.heap.size w w'
set_option maxRecDepth 100000 in
set_option maxHeartbeats 1000000 in
theorem rows_any (g d c W H : Nat) (p : Plane) (hW : 1 ≤ W ∧ W ≤ 1024) (hH : 1 ≤ H ∧ H ≤ 1024) (res : List UInt8) (hres : res ≠ []) (good : Nat → Bool) (hok : RowsOk p W H res good) (w : World) (hb : BitsAt w g d c W H p) :
    Calls Try.prog 29 #[.pointer (some ⟨g, 0, none⟩)] w (RetNum (anyB good H) res w) := by
  have HOK := Lib.hid hok
  have HB := Lib.hid hb
  have HRE := Lib.hid hres
  have HW1 := Lib.hid hW
  have HH1 := Lib.hid hH
  have s1 := hb.c1
  obtain ⟨hH0, hH2⟩ := hH
  clear hok hb hres hW
  go_enter Try.func29, Try.ntmps29
  go_wp2_with fail
  go_loopw [4, 12] (fun s i wr => ∃ k : Nat, ∃ T : ByteArray, k ≤ H ∧ i = .int .i64 k ∧ s = .string T ∧ Hid (T = strB (if anyB good k then res else []) ∧ Below w.heap.size w wr)) (fun _ i _ => H - (intOf i).toNat)
  case atStart => exact ⟨0, _, by omega, rfl, rfl, rfl, Below.refl _ _⟩
  case round =>
    obtain ⟨k, T, hk, rfl, rfl, HX⟩ := hrel
    obtain ⟨wb, rfl⟩ : ∃ wb : World, wb = wr := ⟨_, rfl⟩
    by_cases hlt : k < H
    · have kd : (k : Int) < (H : Int) := by omega
      have kk : IntKind.i64.wrap ((k : Int) + 1) = (k : Int) + 1 := IntWalk.i64_in _ (by omega)
      obtain ⟨zs, hzs, hdec⟩ := HOK.out k hlt
      have HLR := Lib.hid (lrow_any g d c W H k p HW1.out HH1.out zs hzs wb (HB.out.below HX.out.2 (by have := HW1.out; omega) (by omega)))
      have HDE := Lib.hid hdec
      clear hzs hdec
      go_wp2_with fail
      refine HLR.out.mono ?_
      rintro e w1 ⟨v1, rfl, ho1, hb1⟩
      have HDC := Lib.hid (HDE.out w1 _ _ ho1)
      have HB1 := Lib.hid (bthen HX.out.2 hb1)
      clear HLR HDE ho1 hb1
      go_wp2_with fail
      refine HDC.out.mono ?_
      rintro e w2 ⟨rfl, hb2⟩
      have HB2 := Lib.hid (bthen HB1.out hb2)
      clear HDC HB1 hb2
      obtain ⟨b, hbk⟩ : ∃ b, b = good k := ⟨_, rfl⟩
      have HAN : Hid (anyB good (k + 1) = (anyB good k || b)) := by rw [hbk]; rfl
      have HT := Lib.hid HX.out.1
      rw [← hbk]
      clear hbk HX hk HOK
      have HLT := Lib.hid hlt
      clear hlt
      cases b with
      | false =>
        have HNX : Hid (T = strB (if anyB good (k + 1) then res else []) ∧ Below w.heap.size w w2) := ⟨by rw [HAN.out, Bool.or_false]; exact HT.out, HB2.out⟩
        clear HT HB2 HAN
        rw [show (if false = true then res else []) = [] from rfl, show (if false = true then (0 : Int) else 12) = 12 from rfl]
        go_wp2_with fail
        go_roundw
        case rel => exact ⟨k + 1, T, HLT.out, by go_num, rfl, HNX⟩
        case measure => have := HLT.out; simp [intOf]; omega
      | true =>
        obtain ⟨R, hR⟩ : ∃ R, R = strB res := ⟨_, rfl⟩
        have HR : Hid (R = strB res) := hR
        rw [show (if true = true then res else []) = res from rfl, show (if true = true then (0 : Int) else 12) = 0 from rfl, ← hR]
        have HNX : Hid (R = strB (if anyB good (k + 1) then res else []) ∧ Below w.heap.size w w2) := ⟨by rw [HAN.out, Bool.or_true]; exact HR.out, HB2.out⟩
        have ht := HT.out
        cases ha : anyB good k with
        | true =>
          rw [ha] at ht
          obtain rfl : T = R := ht.trans HR.out.symm
          clear HT HB2 HAN hR ht ha
          go_wp2_with fail
          go_roundw
          case rel => exact ⟨k + 1, T, HLT.out, by go_num, rfl, HNX⟩
          case measure => have := HLT.out; simp [intOf]; omega
        | false =>
          rw [ha] at ht
          have q1 : (R.toList == T.toList) = false := by
            rw [beq_eq_false_iff_ne, ht, HR.out]
            exact fun e => HRE.out (by simpa [strB] using e)
          have q2 : (T.toList == []) = true := by rw [beq_iff_eq, ht, if_neg (by decide)]; decide +kernel
          clear HT HB2 HAN hR ht ha
          go_wp2_with fail
          go_roundw
          case rel => exact ⟨k + 1, R, HLT.out, by go_num, rfl, HNX⟩
          case measure => have := HLT.out; simp [intOf]; omega
    · obtain rfl : H = k := by omega
      have ht := HX.out.1
      have HB2 := Lib.hid HX.out.2
      cases ha : anyB good H with
      | true =>
        rw [ha] at ht
        have q1 : (T.toList == []) = false := by
          rw [beq_eq_false_iff_ne, ht]
          exact fun e => HRE.out (by simpa [strB] using e)
        have HF : Hid (RetNum (anyB good H) res w (.returned (.tuple #[.string T, .int .i64 0])) wb) := ⟨by rw [ht, ha]; rfl, HB2.out⟩
        clear HX HB2 ht ha hk hlt
        go_wp2
        go_ret2
        exact HF.out
      | false =>
        rw [ha] at ht
        have q1 : (T.toList == []) = true := by rw [beq_iff_eq, ht, if_neg (by decide)]; decide +kernel
        have HF : Hid (RetNum (anyB good H) res w (.returned (.tuple #[.string ⟨#[]⟩, .int .i64 8])) wb) := ⟨by rw [ha]; rfl, HB2.out⟩
        clear HX HB2 ht ha hk hlt
        go_wp2
        go_ret2
        exact HF.out
end Go.Proofs.Ytcadgjhfdolejaa
