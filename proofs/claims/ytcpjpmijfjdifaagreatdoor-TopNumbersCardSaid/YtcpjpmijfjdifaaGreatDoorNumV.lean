/-
  The walks of vary.Verify. Own text.
-/
import Derived.Test.YtcpjpmijfjdifaaGreatDoorNumN
namespace Go.Proofs.YtcpjpmijfjdifaaGreatDoor
open Go.RowKit
set_option linter.unusedVariables false
set_option maxRecDepth 100000 in
set_option maxHeartbeats 4000000 in
theorem verify_any (n d : Nat) (w : World) (hn : n < 1000000000000) (hl : (Lib.decDigits n).length ≤ d) (hl1 : 1 ≤ (Lib.decDigits n).length) (hd : d ≤ 12) (ht : TabP w) :
    Calls Tryz.prog 8 #[.string (strB (numV n d))] w fun e w' => e = .returned (.tuple #[.int .i64 n, .int .i64 0]) ∧ Below w.heap.size w w' := by
  have HT := Lib.hid ht
  obtain ⟨s, hs⟩ : ∃ s, s = strB (numV n d) := ⟨_, rfl⟩
  have hsz : s.size = d + 2 := by rw [hs, strB_size, numV_len hl]
  have hdig : Digs s := by rw [hs]; exact fun b hb => numV_dig n d b hb
  have HCO := Lib.hid (fun W => vcontains_any hdig W)
  have HNU := Lib.hid (fun W (h : TabP W) => number_any n d W hn hl hl1 hd h)
  have HAT : Hid (∀ W, Calls Tryz.prog 15 #[.string (s.extract 0 d)] W fun e w' => e = .returned (.tuple #[.int .i64 n, .nilIface]) ∧ Below W.heap.size W w') := fun W => by
    have e1 : (s.extract 0 d).data.toList = padV n d := by
      rw [extractL, hs, strB_data]
      simp only [List.drop_zero, Nat.sub_zero]
      exact numV_take hl
    have e2 : (s.extract 0 d).size = d := by
      show (s.extract 0 d).data.toList.length = d
      rw [e1, padV_len hl]
    refine (Tryz.strconv_Atoi (s.extract 0 d) n (by omega) (by rw [e1]; exact padV_atoi n d (by rw [padV_len hl]; omega)) W).mono ?_
    rintro e w' ⟨rfl, t, rfl⟩
    exact ⟨rfl, Lib.bytesWorld_below _ _ _⟩
  rw [← hs] at HNU ⊢
  clear hs hdig ht
  have a1 : ¬ (s.size < 3) := by omega
  have a2 : ¬ (14 < s.size) := by omega
  have a3 : (s.size : Int) - 2 = (d : Int) := by omega
  go_enter Tryz.func8, Tryz.ntmps8
  go_wp2_with fail
  refine (HCO.out _).mono ?_
  rintro e w2 ⟨rfl, hb2⟩
  have HB2 := Lib.hid hb2
  clear hb2
  go_wp2_with fail
  refine (HAT.out _).mono ?_
  rintro e w3 ⟨rfl, hb3⟩
  have HB3 := Lib.hid (bthen HB2.out hb3)
  clear hb3
  go_wp2_with fail
  refine (HNU.out _ (HT.out.below HB3.out)).mono ?_
  rintro e w4 ⟨rfl, hb4⟩
  have HB4 := Lib.hid (bthen HB3.out hb4)
  clear hb4
  go_wp2
  go_ret2
  exact ⟨rfl, HB4.out⟩
end Go.Proofs.YtcpjpmijfjdifaaGreatDoor
