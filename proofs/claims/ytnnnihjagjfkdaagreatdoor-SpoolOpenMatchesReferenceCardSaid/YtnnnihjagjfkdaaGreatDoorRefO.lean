/-
  The walks of the reference's jobText, wordsOf, SameJobs. Own text.
-/
import Derived.Test.YtnnnihjagjfkdaaGreatDoorRefU
namespace Go.Proofs.YtnnnihjagjfkdaaGreatDoor
open Go.RowKit
set_option linter.unusedVariables false
def RetJT (l : List UInt8) (w : World) (e : Ending) (w' : World) : Prop := ∃ T ok, e = .returned (.tuple #[.string T, .bool ok]) ∧ (ok = true → decV l = (T.data.toList, true)) ∧ (ok = false → (decV l).2 = false) ∧ Below w.heap.size w w'
theorem decV_head {c : UInt8} {r : List UInt8} (h : c ≠ 61) : (decV (c :: r)).2 = false := by
  unfold decV
  simp only
  rw [if_neg h]
theorem decV_some {r t : List UInt8} (h : unText r = some t) (hr : r.length ≤ 65536) (ht : t.length ≤ 256) : decV (61 :: r) = (t, true) := by
  unfold decV decText
  simp only
  rw [if_pos trivial, h]
  simp only
  rw [if_pos ⟨hr, by omega⟩]
  simp only
  rw [decide_eq_true ht]
theorem decV_long {r : List UInt8} (h : ∀ t, unText r = some t → 256 < t.length) : (decV (61 :: r)).2 = false := by
  unfold decV decText
  simp only
  rw [if_pos trivial]
  cases e : unText r with
  | none => rfl
  | some t =>
    have := h t e
    simp only
    by_cases hc : r.length ≤ 65536 ∧ t.length ≤ 16384
    · rw [if_pos hc]
      simp only
      exact decide_eq_false (by omega)
    · rw [if_neg hc]
set_option maxRecDepth 100000 in
set_option maxHeartbeats 2000000 in
theorem jobText_any (s : ByteArray) (w : World) (hs : s.size ≤ 65536) :
    Calls Tryz.prog 44 #[.string s] w (RetJT s.data.toList w) := by
  by_cases h0 : s.size = 0
  · obtain rfl : s = ⟨#[]⟩ := by
      cases s with | mk d => cases d with | mk l => simp [ByteArray.size] at h0; subst h0; rfl
    have HF : Hid (RetJT (⟨#[]⟩ : ByteArray).data.toList w (.returned (.tuple #[.string ⟨#[]⟩, .bool false])) w) := ⟨_, _, rfl, (fun h => by cases h), (fun _ => rfl), Below.refl _ _⟩
    go_enter Tryz.func44, Tryz.ntmps44
    go_wp2
    go_ret2
    exact HF.out
  · have hlt : 0 < s.size := by omega
    have hn0 : (s.toList == ([] : List UInt8)) = false := by
      rw [beq_eq_false_iff_ne, ByteArray.toList_eq]
      intro e
      have hl : s.data.toList.length = s.size := by simp
      rw [e] at hl
      exact h0 hl.symm
    have hd0 : s.data.toList = s[0] :: s.data.toList.drop 1 := by
      have h := dropB s 0 hlt
      rw [List.drop_zero] at h
      exact h
    by_cases h61 : s[0] = 61
    · have e61 : ((s[0].toNat : Int) == 61) = true := by rw [h61]; rfl
      have e61b : ((s[0].toNat : Int) != 61) = false := by rw [h61]; rfl
      obtain ⟨S, hS⟩ : ∃ S, S = s.extract 1 s.size := ⟨_, rfl⟩
      have hSz : S.size = s.size - 1 := by rw [hS]; exact extractL_size s 1 s.size (Nat.le_refl _)
      have hSd : S.data.toList = s.data.toList.drop 1 := by
        rw [hS, extractL, List.take_of_length_le]
        rw [List.length_drop]
        simp
      have HUL := Lib.hid (unletter_any S w (by omega))
      have HSS := Lib.hid hS
      have HDD : Hid (s.data.toList = 61 :: S.data.toList) := by show _ = _; rw [hSd, ← h61]; exact hd0
      have HSL : Hid (S.data.toList.length ≤ 65536) := by
        have : S.data.toList.length = S.size := by simp
        show _ ≤ _
        omega
      have k1 : (1 : Int) ≤ (s.size : Int) := by omega
      clear hS hSd hd0 h61 h0
      go_enter Tryz.func44, Tryz.ntmps44
      go_wp2_with fail
      rw [← HSS.out]
      refine HUL.out.mono ?_
      rintro e w2 ⟨(⟨t, ht, rfl⟩ | ⟨c, hc, hbad, rfl⟩), hb2⟩
      · by_cases h256 : (strB t).size ≤ 256
        · have HF : Hid (RetJT s.data.toList w (.returned (.tuple #[.string (strB t), .bool true])) w2) := ⟨_, _, rfl, fun _ => by
            rw [HDD.out]
            exact decV_some ht HSL.out (by rw [strB_size] at h256; exact h256), fun h => (by cases h), hb2⟩
          have kk : ((strB t).size : Int) ≤ 256 := by omega
          clear h256 ht hb2
          go_wp2
          go_ret2
          exact HF.out
        · have HF : Hid (RetJT s.data.toList w (.returned (.tuple #[.string (strB t), .bool false])) w2) := ⟨_, _, rfl, fun h => (by cases h), fun _ => by
            rw [HDD.out]
            refine decV_long fun t2 ht2 => ?_
            rw [ht] at ht2
            obtain rfl := Option.some.inj ht2
            rw [strB_size] at h256
            omega, hb2⟩
          have kk : decide (((strB t).size : Int) ≤ 256) = false := decide_eq_false (by omega)
          clear h256 ht hb2
          go_wp2
          go_ret2
          exact HF.out
      · have HF : Hid (RetJT s.data.toList w (.returned (.tuple #[.string ⟨#[]⟩, .bool false])) w2) := ⟨_, _, rfl, fun h => (by cases h), fun _ => by
          rw [HDD.out]
          exact decV_long hbad, hb2⟩
        have ec : (c == 0) = false := by rw [beq_eq_false_iff_ne]; exact hc
        clear hbad hb2 hc
        go_wp2
        go_ret2
        exact HF.out
    · have HF : Hid (RetJT s.data.toList w (.returned (.tuple #[.string ⟨#[]⟩, .bool false])) w) := ⟨_, _, rfl, fun h => (by cases h), fun _ => by rw [hd0]; exact decV_head h61, Below.refl _ _⟩
      have e61 : ((s[0].toNat : Int) == 61) = false := by
        rw [beq_eq_false_iff_ne]
        exact fun e => h61 (UInt8.toNat_inj.1 (by have : (61 : UInt8).toNat = 61 := rfl; omega))
      have e61b : ((s[0].toNat : Int) != 61) = true := by simp only [bne, e61, Bool.not_false]
      clear hd0 h61 h0
      go_enter Tryz.func44, Tryz.ntmps44
      go_wp2
      go_ret2
      exact HF.out
/-- The words of a valid record. -/
def wordsOfV (line epS : List UInt8) (sq : Nat) : Option (List (List UInt8)) :=
  if (wordsV line).length < 2 then none
  else if hexV (sumV (epS ++ [32] ++ Lib.itoa sq ++ [32] ++ bodyV (wordsV line).dropLast)) = (wordsV line).getLastD [] then some (wordsV line).dropLast else none
/-- The line ahead of its last word. -/
theorem line_pre {line : List UInt8} (h : 2 ≤ (wordsV line).length) : line = bodyV (wordsV line).dropLast ++ 32 :: (wordsV line).getLastD [] := by
  have e := join_words line
  have hne : wordsV line ≠ [] := fun e => by rw [e] at h; simp at h
  have hd : (wordsV line).dropLast ≠ [] := fun e => by
    have := congrArg List.length e
    rw [List.length_dropLast] at this
    simp at this
    omega
  have hs : (wordsV line).dropLast ++ [(wordsV line).getLastD []] = wordsV line := by
    have := List.dropLast_concat_getLast hne
    rw [List.getLastD_eq_getLast?, List.getLast?_eq_some_getLast hne]
    exact this
  conv => lhs; rw [← e, ← hs, join_snoc _ _ hd]
  unfold bodyV
  simp
end Go.Proofs.YtnnnihjagjfkdaaGreatDoor
