/-
  The walks of the reference's checksum and numbers. Own text.
-/
import Derived.Test.YtnnnihjagjfkdaaGreatDoorRefV
import Derived.Test.YtnnnihjagjfkdaaGreatDoorReo
namespace Go.Proofs.YtnnnihjagjfkdaaGreatDoor
open Go.RowKit
set_option linter.unusedVariables false
set_option maxHeartbeats 400000 in
theorem digit_any (c : Int) (w : World) :
    Calls Tryz.prog 78 #[.int .u8 c] w fun e w' => e = .returned (.bool (decide (48 ≤ c ∧ c ≤ 57))) ∧ w = w' := by
  by_cases h1 : 48 ≤ c
  · by_cases h2 : c ≤ 57
    · have hd : decide (48 ≤ c ∧ c ≤ 57) = true := decide_eq_true ⟨h1, h2⟩
      rw [hd]
      go_enter Tryz.func78, Tryz.ntmps78
      go_wp2
      go_ret
      exact ⟨rfl, rfl⟩
    · have hd : decide (48 ≤ c ∧ c ≤ 57) = false := decide_eq_false fun h => h2 h.2
      rw [hd]
      go_enter Tryz.func78, Tryz.ntmps78
      go_wp2
      go_ret
      exact ⟨rfl, rfl⟩
  · have hd : decide (48 ≤ c ∧ c ≤ 57) = false := decide_eq_false fun h => h1 h.1
    rw [hd]
    go_enter Tryz.func78, Tryz.ntmps78
    go_wp2
    go_ret
    exact ⟨rfl, rfl⟩
theorem dropB (s : ByteArray) (k : Nat) (h : k < s.size) : s.data.toList.drop k = s[k] :: s.data.toList.drop (k + 1) := by
  rw [List.drop_eq_getElem_cons (by simpa using h)]
  rfl
set_option maxRecDepth 100000 in
set_option maxHeartbeats 2000000 in
theorem whole_any (s : ByteArray) (w : World) (hs : s.size ≤ 1000000) :
    Calls Tryz.prog 60 #[.string s] w fun e w' => e = .returned (.int .i64 (wholeV s.data.toList)) ∧ w = w' := by
  by_cases h0 : s.size = 0
  · obtain rfl : s = ⟨#[]⟩ := by
      cases s with | mk d => cases d with | mk l => simp [ByteArray.size] at h0; subst h0; rfl
    have hv : wholeV (⟨#[]⟩ : ByteArray).data.toList = -1 := rfl
    rw [hv]
    go_enter Tryz.func60, Tryz.ntmps60
    go_wp2
    go_ret
    exact ⟨rfl, rfl⟩
  · have hne : s.data.toList ≠ [] := fun e => by
      have hl : s.data.toList.length = s.size := by simp
      rw [e] at hl
      exact h0 hl.symm
    have HV : Hid (wholeV s.data.toList = wholeG 0 (s.data.toList.drop 0)) := by
      show _ = _
      unfold wholeV
      rw [if_neg hne]
      rfl
    have hn0 : (s.toList == ([] : List UInt8)) = false := by
      rw [beq_eq_false_iff_ne, ByteArray.toList_eq]
      exact hne
    clear hne
    go_enter Tryz.func60, Tryz.ntmps60
    go_wp2
    go_loop [3, 9] (fun v i => ∃ (k : Nat) (n : Int), k ≤ s.size ∧ i = .int .i64 k ∧ v = .int .i64 n ∧ (0 ≤ n ∧ n ≤ 1099511627776) ∧ Hid (wholeV s.data.toList = wholeG n (s.data.toList.drop k))) (fun _ i => s.size - (intOf i).toNat)
    case atStart => exact ⟨0, 0, by omega, rfl, rfl, by omega, HV.out⟩
    case round =>
      clear HV
      obtain ⟨k, n, hk, rfl, rfl, hn, HV⟩ := hrel
      by_cases hlt : k < s.size
      · have hc : (s[k].toNat : Int) < 256 := by have := s[k].toNat_lt; omega
        have HD := Lib.hid (digit_any (s[k].toNat : Int))
        have kd : (k : Int) < (s.size : Int) := by omega
        have hdr := dropB s k hlt
        by_cases hdig : 48 ≤ s[k].toNat ∧ s[k].toNat ≤ 57
        · have hdd : decide (48 ≤ (s[k].toNat : Int) ∧ (s[k].toNat : Int) ≤ 57) = true := decide_eq_true (by omega)
          have HNX : Hid (wholeV s.data.toList = wholeG (min (n * 10 + (s[k].toNat : Int) - 48) 1099511627776) (s.data.toList.drop (k + 1))) := by
            show _ = _
            rw [HV.out, hdr]
            conv => lhs; unfold wholeG
            rw [if_pos hdig]
          rw [hdd] at HD
          clear hdr hdd HV
          obtain ⟨c, hcc⟩ : ∃ c : Int, c = (s[k].toNat : Int) := ⟨_, rfl⟩
          have hc1 : 48 ≤ c ∧ c ≤ 57 := by omega
          go_wp2_with fail
          refine (HD.out _).mono ?_
          rintro e w' ⟨rfl, rfl⟩
          go_wp2
          go_round
          case rel => exact ⟨k + 1, _, by omega, by go_num, rfl, by omega, HNX⟩
          case measure => simp [intOf]; omega
        · have hdd : decide (48 ≤ (s[k].toNat : Int) ∧ (s[k].toNat : Int) ≤ 57) = false := decide_eq_false (by omega)
          have HNX : Hid (wholeV s.data.toList = -1) := by
            show _ = _
            rw [HV.out, hdr]
            unfold wholeG
            rw [if_neg hdig]
          rw [hdd] at HD
          clear hdr hdd HV
          go_wp2_with fail
          refine (HD.out _).mono ?_
          rintro e w' ⟨rfl, rfl⟩
          go_wp2
          go_ret
          refine ⟨?_, rfl⟩
          rw [HNX.out]
          rfl
      · obtain rfl : s.size = k := by omega
        have HE : Hid (wholeV s.data.toList = n) := by
          show _ = _
          rw [HV.out, List.drop_of_length_le (by simp)]
          rfl
        go_wp2
        go_ret
        refine ⟨?_, rfl⟩
        rw [HE.out]
        rfl
set_option maxRecDepth 100000 in
set_option maxHeartbeats 2000000 in
theorem big_any (s : ByteArray) (w : World) (hs : s.size ≤ 1000000) :
    Calls Tryz.prog 43 #[.string s] w fun e w' => e = .returned (.int .i64 (bigV s.data.toList)) ∧ w = w' := by
  have HW := Lib.hid (whole_any s w hs)
  have hl : s.data.toList.length = s.size := by simp
  by_cases h12 : 12 < s.size
  · have hv : bigV s.data.toList = -1 := by unfold bigV; rw [if_pos (.inr (by omega))]
    rw [hv]
    have k1 : (1 : Int) < (s.size : Int) := by omega
    have k2 : (12 : Int) < (s.size : Int) := by omega
    have hlt : 0 < s.size := by omega
    by_cases h48 : s[0] = 48
    · have e48 : ((s[0].toNat : Int) == 48) = true := by rw [h48]; rfl
      go_enter Tryz.func43, Tryz.ntmps43
      go_wp2
      go_ret
      exact ⟨rfl, rfl⟩
    · have e48 : ((s[0].toNat : Int) == 48) = false := by
        rw [beq_eq_false_iff_ne]
        exact fun e => h48 (UInt8.toNat_inj.1 (by have : (48 : UInt8).toNat = 48 := rfl; omega))
      go_enter Tryz.func43, Tryz.ntmps43
      go_wp2
      go_ret
      exact ⟨rfl, rfl⟩
  · have k2 : ¬ (12 : Int) < (s.size : Int) := by omega
    by_cases h1 : 1 < s.size
    · have k1 : (1 : Int) < (s.size : Int) := by omega
      have hlt : 0 < s.size := by omega
      have hg : s.data.toList.getD 0 0 = s[0] := by
        rw [List.getD_eq_getElem?_getD, List.getElem?_eq_getElem (by omega), Option.getD_some]
        rfl
      by_cases h48 : s[0] = 48
      · have hv : bigV s.data.toList = -1 := by unfold bigV; rw [if_pos (.inl ⟨by omega, by rw [hg, h48]⟩)]
        rw [hv]
        have e48 : ((s[0].toNat : Int) == 48) = true := by rw [h48]; rfl
        go_enter Tryz.func43, Tryz.ntmps43
        go_wp2
        go_ret
        exact ⟨rfl, rfl⟩
      · have hv : bigV s.data.toList = wholeV s.data.toList := by
          unfold bigV
          rw [if_neg]
          rintro (⟨_, e⟩ | e)
          · rw [hg] at e; exact h48 e
          · omega
        rw [hv]
        have e48 : ((s[0].toNat : Int) == 48) = false := by
          rw [beq_eq_false_iff_ne]
          exact fun e => h48 (UInt8.toNat_inj.1 (by have : (48 : UInt8).toNat = 48 := rfl; omega))
        clear hg hv
        go_enter Tryz.func43, Tryz.ntmps43
        go_wp2_with fail
        refine HW.out.mono ?_
        rintro e w' ⟨rfl, rfl⟩
        go_wp2
        go_ret
        exact ⟨rfl, rfl⟩
    · have k1 : ¬ (1 : Int) < (s.size : Int) := by omega
      have hv : bigV s.data.toList = wholeV s.data.toList := by
        unfold bigV
        rw [if_neg]
        rintro (⟨e, _⟩ | e) <;> omega
      rw [hv]
      clear hv
      go_enter Tryz.func43, Tryz.ntmps43
      go_wp2_with fail
      refine HW.out.mono ?_
      rintro e w' ⟨rfl, rfl⟩
      go_wp2
      go_ret
      exact ⟨rfl, rfl⟩
theorem bne_beq (a b : Bool) : (a == b) = !(a != b) := by cases a <;> cases b <;> rfl
set_option maxHeartbeats 1000000 in
theorem stepped_any (r : Int) (b : Bool) (w : World) (h0 : 0 ≤ r) (h1 : r < 4294967296) :
    Calls Tryz.prog 77 #[.int .u32 r, .bool b] w fun e w' => e = .returned (.int .u32 (stepV r b)) ∧ w = w' := by
  have HV : Hid (stepV r b = if ((r % 2 == 1) != b) = true then bits .xor .u32 (r / 2) 3988292384 else r / 2) := rfl
  obtain ⟨t, ht⟩ : ∃ t, t = ((r % 2 == 1) != b) := ⟨_, rfl⟩
  rw [← ht] at HV
  cases t with
  | true =>
    have e : stepV r b = bits .xor .u32 (r / 2) 3988292384 := HV.out
    have t1 : ((r % 2 == 1) == b) = false := by rw [bne_beq, ← ht]; rfl
    rw [e]
    clear HV ht e
    go_enter Tryz.func77, Tryz.ntmps77
    go_wp2
    go_ret
    exact ⟨rfl, rfl⟩
  | false =>
    have e : stepV r b = r / 2 := HV.out
    have t1 : ((r % 2 == 1) == b) = true := by rw [bne_beq, ← ht]; rfl
    rw [e]
    clear HV ht e
    go_enter Tryz.func77, Tryz.ntmps77
    go_wp2
    go_ret
    exact ⟨rfl, rfl⟩
theorem and_one : ∀ n : Nat, n < 256 → bits .and .u8 (n : Int) 1 = ((n % 2 : Nat) : Int) := by decide +kernel
theorem bit_of (c : UInt8) (t : Nat) : (bits .and .u8 ((c.toNat : Int) / 2 ^ t) 1 == 1) = ((c.toNat / 2 ^ t) % 2 == 1) := by
  have hc := c.toNat_lt
  have h2 : ((c.toNat : Int) / 2 ^ t) = ((c.toNat / 2 ^ t : Nat) : Int) := by simp
  have h3 : c.toNat / 2 ^ t ≤ c.toNat := Nat.div_le_self _ _
  rw [h2, and_one _ (by omega)]
  by_cases e : c.toNat / 2 ^ t % 2 = 1
  · rw [e]; rfl
  · have e0 : c.toNat / 2 ^ t % 2 = 0 := by omega
    rw [e0]; rfl
set_option maxRecDepth 100000 in
set_option maxHeartbeats 2000000 in
theorem check_any (s : ByteArray) (w : World) (hs : s.size ≤ 1000000) :
    Calls Tryz.prog 58 #[.string s] w fun e w' => e = .returned (.int .u32 (sumV s.data.toList)) ∧ w = w' := by
  go_enter Tryz.func58, Tryz.ntmps58
  go_wp2
  go_loop [3, 8] (fun r i => ∃ (k : Nat) (x : Int), k ≤ s.size ∧ i = .int .i64 k ∧ r = .int .u32 x ∧ Hid (x = sumFrom 4294967295 (s.data.toList.take k)) ∧ 0 ≤ x ∧ x < 4294967296) (fun _ i => s.size - (intOf i).toNat)
  case atStart => exact ⟨0, _, by omega, rfl, rfl, rfl, by omega, by omega⟩
  case round =>
    obtain ⟨k, x, hk, rfl, rfl, hx, h0, h1⟩ := hrel
    by_cases hlt : k < s.size
    · have kd : (k : Int) < (s.size : Int) := by omega
      have hc : (s[k].toNat : Int) < 256 := by have := s[k].toNat_lt; omega
      have HB := Lib.hid (fun t => bitsV_bd s[k] h0 h1 t)
      have HX := Lib.hid hx.out
      go_wp2
      go_loop [3, 11] (fun r i => ∃ (t : Nat) (y : Int), t ≤ 8 ∧ i = .int .i64 t ∧ r = .int .u32 y ∧ Hid (y = bitsV x s[k] t) ∧ 0 ≤ y ∧ y < 4294967296) (fun _ i => 8 - (intOf i).toNat)
      case atStart => exact ⟨0, _, by omega, rfl, rfl, rfl, h0, h1⟩
      case round =>
        obtain ⟨t, y, ht, rfl, rfl, hy, y0, y1⟩ := hrel
        by_cases ht8 : t < 8
        · have td : (t : Int) < 8 := by omega
          have hbit : (bits .and .u8 ((s[k].toNat : Int) / 2 ^ t) 1 == 1) = ((s[k].toNat / 2 ^ t) % 2 == 1) := bit_of s[k] t
          obtain ⟨b, hb⟩ : ∃ b, b = ((s[k].toNat / 2 ^ t) % 2 == 1) := ⟨_, rfl⟩
          rw [← hb] at hbit
          have HST := Lib.hid (stepped_any y b w y0 y1)
          have HNX : Hid (stepV y b = bitsV x s[k] (t + 1)) := by show _ = _; rw [hb, hy.out]; rfl
          have hbd := stepV_bd y0 y1 b
          obtain ⟨z, hz⟩ : ∃ z, z = stepV y b := ⟨_, rfl⟩
          rw [← hz] at HST HNX hbd
          obtain ⟨z0, z1⟩ := hbd
          clear hb hz
          go_wp2_with fail
          refine HST.out.mono ?_
          rintro e w' ⟨rfl, rfl⟩
          go_wp2
          go_round
          case rel => exact ⟨t + 1, z, by omega, by go_num, rfl, HNX, z0, z1⟩
          case measure => simp [intOf]; omega
        · obtain rfl : t = 8 := by omega
          have HNX : Hid (y = sumFrom 4294967295 (s.data.toList.take (k + 1))) := by
            show _ = _
            rw [take_snocB s k hlt, sumFrom_snoc, ← HX.out, hy.out, bitsV_byte s[k] h0 h1]
          go_wp2
          go_round
          case rel => exact ⟨k + 1, y, by omega, by go_num, rfl, HNX, y0, y1⟩
          case measure => simp [intOf]; omega
    · obtain rfl : s.size = k := by omega
      have HV : Hid (sumV s.data.toList = bits .xor .u32 IntKind.u32.max x) := by
        show _ = _
        unfold sumV
        rw [hx.out, List.take_of_length_le (by simp)]
      have hcm : bits .xor .u32 x 4294967295 = bits .xor .u32 IntKind.u32.max x := by
        rw [bits_xor, bits_xor, BitVec.xor_comm]
        rfl
      go_wp2
      go_ret
      refine ⟨?_, rfl⟩
      rw [HV.out, ← hcm]
      rfl
end Go.Proofs.YtnnnihjagjfkdaaGreatDoor
