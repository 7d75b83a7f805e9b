/-
  The walks of vary.Number. Own text.
-/
import Derived.Test.YtcpjpmijfjdifaaGreatDoorNumW
namespace Go.Proofs.YtcpjpmijfjdifaaGreatDoor
open Go.RowKit
set_option linter.unusedVariables false
theorem vcheck_str (l : List UInt8) (w : World) (hs : l.length ≤ 1000) (hd : ∀ b ∈ l, IsDig b) :
    Calls Tryz.prog 12 #[.string (strB l)] w fun e w' => e = .returned (.int .i64 (chkV l : Nat)) ∧ w = w' := by
  have h := vcheck_any (strB l) w (by rw [strB_size]; exact hs) hd
  rw [strB_data] at h
  exact h
set_option maxRecDepth 100000 in
set_option maxHeartbeats 4000000 in
theorem number_any (n d : Nat) (w : World) (hn : n < 1000000000000) (hl : (Lib.decDigits n).length ≤ d) (hl1 : 1 ≤ (Lib.decDigits n).length) (hd : d ≤ 12) (ht : TabP w) :
    Calls Tryz.prog 7 #[.int .i64 n, .int .i64 d] w fun e w' => e = .returned (.tuple #[.string (strB (numV n d)), .int .i64 0]) ∧ Below w.heap.size w w' := by
  have HT := Lib.hid ht
  obtain ⟨L, hL⟩ : ∃ L, L = (Lib.decDigits n).length := ⟨_, rfl⟩
  rw [← hL] at hl hl1
  have HPV : Hid (padV n d = List.replicate (d - L) 48 ++ Lib.decDigits n) := by show _ = _; rw [hL]; exact padV_def n d
  have HPL : Hid ((padV n d).length = d) := padV_len (by rw [← hL]; exact hl)
  have HLL := Lib.hid hL
  have HIT := Lib.hid (fun W (h : TabP W) => itoa_any n W (by omega) h)
  clear hL ht
  have d1 : ¬ ((d : Int) < 1) := by omega
  have d2 : ¬ ((d : Int) > 12) := by omega
  have n0 : ¬ ((n : Int) < 0) := by omega
  go_enter Tryz.func7, Tryz.ntmps7
  go_wp2_with fail
  refine (HIT.out _ HT.out).mono ?_
  rintro e w2 ⟨rfl, hb2⟩
  have HB2 := Lib.hid hb2
  clear hb2
  obtain ⟨X, hX⟩ : ∃ X, X = strB (Lib.decDigits n) := ⟨_, rfl⟩
  rw [← hX]
  have hXs : X.size = L := by rw [hX, strB_size, HLL.out]
  have HXX := Lib.hid hX
  have HRP : Hid (∀ W, Calls Tryz.prog 11 #[.string ⟨#[48]⟩, .int .i64 ((d : Int) - (L : Int))] W (RetStr (List.replicate (d - L) 48) W)) := fun W => rep_any _ _ (by omega) W (by omega)
  clear hX
  have g1 : ¬ (d < X.size) := by omega
  have g2 : X.size ≤ d := by omega
  go_wp2_with fail
  refine (HRP.out _).mono ?_
  rintro e w3 ⟨rfl, hb3⟩
  have HB3 := Lib.hid (bthen HB2.out hb3)
  clear hb3
  obtain ⟨Z, hZ⟩ : ∃ Z, Z = strB (List.replicate (d - L) 48) := ⟨_, rfl⟩
  rw [← hZ]
  have hZs : Z.size ≤ 12 := by rw [hZ, strB_size, List.length_replicate]; omega
  have HZZ := Lib.hid hZ
  clear hZ
  obtain ⟨Y, hY⟩ : ∃ Y, Y = strB (padV n d) := ⟨_, rfl⟩
  have eY : Z ++ X = Y := by rw [HZZ.out, HXX.out, strB_app, hY, HPV.out]
  have hYs : Y.size = d := by rw [hY, strB_size]; exact HPL.out
  obtain ⟨C, hC⟩ : ∃ C, C = chkV (padV n d) := ⟨_, rfl⟩
  have hCb : 2 ≤ C ∧ C ≤ 98 := by rw [hC]; exact chkV_bd _
  have HCK : Hid (∀ W, Calls Tryz.prog 12 #[.string (Z ++ X)] W fun e w' => e = .returned (.int .i64 (C : Nat)) ∧ W = w') := fun W => by
    rw [eY, hC, hY]
    exact vcheck_str (padV n d) W (by rw [HPL.out]; omega) (padV_dig n d)
  have HCI := Lib.hid (fun W (h : TabP W) => itoa_any C W (by omega) h)
  have HNV : Hid (numV n d = padV n d ++ (List.replicate (2 - (Lib.decDigits C).length) 48 ++ Lib.decDigits C)) := by show _ = _; rw [numV_def, ← hC]; exact congrArg (padV n d ++ ·) (padV_def C 2)
  have hc2 := decDigits_len2 C (by omega)
  have HYY := Lib.hid hY
  have HEY := Lib.hid eY
  clear hY hC eY
  go_wp2_with fail
  refine (HCK.out _).mono ?_
  rintro e w4 ⟨rfl, rfl⟩
  go_wp2_with fail
  refine (HCI.out _ (HT.out.below HB3.out)).mono ?_
  rintro e w5 ⟨rfl, hb5⟩
  have HB5 := Lib.hid (bthen HB3.out hb5)
  clear hb5
  obtain ⟨K, hK⟩ : ∃ K, K = strB (Lib.decDigits C) := ⟨_, rfl⟩
  rw [← hK]
  obtain ⟨M, hM⟩ : ∃ M, M = (Lib.decDigits C).length := ⟨_, rfl⟩
  rw [← hM] at hc2 HNV
  have hKs : K.size = M := by rw [hK, strB_size, hM]
  have HRQ : Hid (∀ W, Calls Tryz.prog 11 #[.string ⟨#[48]⟩, .int .i64 (2 - (M : Int))] W (RetStr (List.replicate (2 - M) 48) W)) := fun W => rep_any _ _ (by omega) W (by omega)
  have HKK := Lib.hid hK
  have k2 : K.size ≤ 2 := by omega
  clear hK hM
  go_wp2_with fail
  refine (HRQ.out _).mono ?_
  rintro e w6 ⟨rfl, hb6⟩
  have HB6 := Lib.hid (bthen HB5.out hb6)
  clear hb6
  obtain ⟨Q, hQ⟩ : ∃ Q, Q = strB (List.replicate (2 - M) 48) := ⟨_, rfl⟩
  rw [← hQ]
  have hQs : Q.size ≤ 12 := by rw [hQ, strB_size, List.length_replicate]; omega
  have HQQ := Lib.hid hQ
  clear hQ
  go_wp2
  go_ret2
  refine ⟨?_, HB6.out⟩
  have eF : Z ++ X ++ Q ++ K = strB (numV n d) := by
    rw [HEY.out, HYY.out, HQQ.out, HKK.out, strB_app, strB_app, HNV.out, List.append_assoc]
  rw [← eF]
  rfl
end Go.Proofs.YtcpjpmijfjdifaaGreatDoor
