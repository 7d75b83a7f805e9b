/-
  The reference's Longer: its walk. Own text.
-/
import Derived.Test.YtjggcnpnjnmamaaTimes
import Derived.Test.YtjggcnpnjnmamaaTimesR
import Derived.Test.YtjggcnpnjnmamaaBoundsLaw
namespace Go.Proofs.Ytjggcnpnjnmamaa
open Go.RowKit
set_option linter.unusedVariables false
set_option maxHeartbeats 4000000 in
theorem longer_any (b off cap n : Nat) (l : List Task) (i : Nat) (ov : Option Addr) (cv : Nat) (w : World) (hG : GoodTasks l) (hn : n = l.length) (hi : i < n) (hx : TasksAt w (some ⟨b, off, none⟩) l) (hv : Flat w 1 encInt ov (lst i (beg l))) :
    Calls Try.prog 27 #[.slice (some ⟨b, off, none⟩) n cap, .int .i64 i, .slice ov i cv] w fun e w' => e = .returned (.int .i64 (longTo l (beg l) i (aftL l i))) ∧ Below w.heap.size w w' := by
  have hil : i < l.length := by omega
  have hn40 := hG.n40
  obtain ⟨oa', cap', ka, fa1⟩ := hx.aft hil
  obtain ⟨m, hmm⟩ : ∃ m, m = aftL l i := ⟨_, rfl⟩
  have hm40 : m ≤ 40 := by rw [hmm]; exact hG.m40 i hil
  rw [← hmm] at ka ⊢
  have HF := Lib.hid fa1
  have HM := Lib.hid hmm
  have HX := Lib.hid hx
  have HG := Lib.hid hG
  have HV := Lib.hid hv
  have HN := Lib.hid hn
  have HIL := Lib.hid hil
  have i1 : (i : Int) < (n : Int) := by omega
  have hn9 : n ≤ 40 := by omega
  clear hmm fa1 hx hG hv hn hil
  go_enter Try.func27, Try.ntmps27
  go_wp2
  go_loopw [7, 16] (fun s7 s16 wr => ∃ q : Nat, q ≤ m ∧ s16 = .int .i64 q ∧ s7 = .int .i64 (longTo l (beg l) i q) ∧ Hid (Below w.heap.size w wr)) (fun _ s16 _ => m - (intOf s16).toNat)
  case atStart => exact ⟨0, by omega, rfl, rfl, Lib.hid (Below.refl _ _)⟩
  case round =>
    clear ka
    obtain ⟨q, hq, rfl, rfl, HB⟩ := hrel
    obtain ⟨P, hP⟩ : ∃ P, P = longTo l (beg l) i q := ⟨_, rfl⟩
    rw [← hP]
    by_cases hlt : q < m
    · have hq2 : q < aftL l i := by rw [← HM.out]; exact hlt
      obtain ⟨ba, offa, rfl, kk⟩ := aftCell HG.out HIL.out hq2 (HF.out.below HB.out)
      have hK1 := (HG.out.aft i q HIL.out hq2).2
      obtain ⟨K, hK⟩ : ∃ K, K = aftN l i q := ⟨_, rfl⟩
      rw [← hK] at kk hK1
      have kn : K < n := by omega
      have kt := (HX.out.below HB.out).len (i := K) (by have := HN.out; omega)
      obtain ⟨bv, offv, rfl, kv⟩ := (HV.out.below HB.out).int (i := K) (by rw [lst_length]; exact hK1)
      rw [show (lst i (beg l))[K]'(by rw [lst_length]; exact hK1) = beg l K by simp [lst]] at kv
      obtain ⟨BK, hBK⟩ : ∃ BK, BK = beg l K := ⟨_, rfl⟩
      obtain ⟨LK, hLK⟩ : ∃ LK, LK = lenN l K := ⟨_, rfl⟩
      have b1 := beg_bd HG.out K
      have b2 : 0 ≤ LK ∧ LK ≤ 1048576 := by rw [hLK]; exact HG.out.len K (by have := HN.out; omega)
      rw [← hBK] at kv b1
      rw [← hLK] at kt
      have g1 : IntKind.i64.wrap (BK + LK) = BK + LK := IntWalk.i64_in _ (by omega)
      obtain ⟨V, hV⟩ : ∃ V, (if P < BK + LK then BK + LK else P) = V := ⟨_, rfl⟩
      have HS : Hid (longTo l (beg l) i (q + 1) = V) := by
        show _ = _
        simp only [longTo]
        rw [← hK, ← hBK, ← hLK, ← hP, ← hV]
        split <;> omega
      have i2 : (K : Int) < (n : Int) := by omega
      have i3 : (K : Int) < (i : Int) := by omega
      clear hK hP hBK hLK
      go_wp2
      go_quiet (fail)
      go_wp2
      go_roundw
      case rel => exact ⟨q + 1, by omega, by go_num, by rw [HS.out], Lib.hid (bdrewN HB.out _)⟩
      case measure => simp [intOf]; omega
    · obtain rfl : m = q := by omega
      have HP := Lib.hid hP
      clear hP
      go_wp2
      go_ret
      exact ⟨by rw [HP.out]; rfl, HB.out⟩
end Go.Proofs.Ytjggcnpnjnmamaa
