/-
  Numbers with check digits: the plain law. No program in sight. Own text.
-/
import Derived.Lib.Atoi
import Derived.Lib.ItoaNum
namespace Go.Proofs.YtcpjpmijfjdifaaGreatDoor
open Go.Lib
set_option linter.unusedVariables false
def IsDig (b : UInt8) : Prop := 48 ≤ b.toNat ∧ b.toNat ≤ 57
theorem ofNat_dig (k : Nat) (h : k < 10) : (UInt8.ofNat (48 + k)).toNat = 48 + k := by
  simp [UInt8.toNat_ofNat']
  omega
theorem decDigits_dig (u : Nat) : ∀ b ∈ decDigits u, IsDig b := by
  induction u using Nat.strongRecOn with
  | _ u ih =>
    intro b hb
    rw [decDigits] at hb
    split at hb
    · next h =>
      obtain rfl := List.mem_singleton.1 hb
      unfold IsDig
      rw [ofNat_dig u h]
      omega
    · next h =>
      rcases List.mem_append.1 hb with hb | hb
      · exact ih (u / 10) (by omega) b hb
      · obtain rfl := List.mem_singleton.1 hb
        unfold IsDig
        rw [ofNat_dig (u % 10) (by omega)]
        omega
theorem digitVal_of (k : Nat) (h : k < 10) : digitVal (UInt8.ofNat (48 + k)) = some k := by
  unfold digitVal
  rw [ofNat_dig k h, if_pos (by omega)]
  congr 1
  omega
theorem decFrom_app (l r : List UInt8) : ∀ (acc m : Nat), decFrom acc l = some m → decFrom acc (l ++ r) = decFrom m r := by
  induction l with
  | nil => intro acc m h; simp [decFrom] at h; subst h; rfl
  | cons b l ih =>
    intro acc m h
    rw [List.cons_append]
    simp only [decFrom] at h ⊢
    cases hd : digitVal b with
    | none => rw [hd] at h; cases h
    | some d => rw [hd] at h; exact ih _ _ h
theorem decFrom_digits (u : Nat) : decFrom 0 (decDigits u) = some u := by
  induction u using Nat.strongRecOn with
  | _ u ih =>
    rw [decDigits]
    split
    · next h => simp only [decFrom]; rw [digitVal_of u h]; simp [decFrom]
    · next h =>
      rw [decFrom_app _ _ 0 (u / 10) (ih (u / 10) (by omega))]
      simp only [decFrom]
      rw [digitVal_of (u % 10) (by omega)]
      simp only [decFrom]
      congr 1
      omega
theorem decFrom_zeros (k : Nat) : decFrom 0 (List.replicate k (48 : UInt8)) = some 0 := by
  induction k with
  | zero => rfl
  | succ k ih =>
    rw [List.replicate_succ]
    simp only [decFrom]
    have : digitVal 48 = some 0 := by decide
    rw [this]
    exact ih
theorem decDigits_len3 (u : Nat) (h : u < 1000) : 1 ≤ (decDigits u).length ∧ (decDigits u).length ≤ 3 := by
  rw [decDigits]
  split
  · simp
  · rw [decDigits]
    split
    · simp
    · rw [decDigits, dif_pos (by omega)]
      simp
theorem decDigits_len2 (u : Nat) (h : u < 100) : 1 ≤ (decDigits u).length ∧ (decDigits u).length ≤ 2 := by
  rw [decDigits]
  split
  · simp
  · rw [decDigits, dif_pos (by omega)]
    simp
theorem itoa_nat (n : Nat) : itoa (n : Int) = decDigits n := by
  unfold itoa
  rw [if_neg (by omega)]
  congr 1
/-- A number with leading zeros. -/
def padV (n d : Nat) : List UInt8 := List.replicate (d - (decDigits n).length) 48 ++ decDigits n
theorem padV_len {n d : Nat} (h : (decDigits n).length ≤ d) : (padV n d).length = d := by
  unfold padV
  rw [List.length_append, List.length_replicate]
  omega
theorem padV_dig (n d : Nat) : ∀ b ∈ padV n d, IsDig b := by
  intro b hb
  rcases List.mem_append.1 hb with hb | hb
  · obtain ⟨_, rfl⟩ := List.mem_replicate.1 hb
    unfold IsDig
    decide
  · exact decDigits_dig n b hb
theorem padV_atoi (n d : Nat) (h : 1 ≤ (padV n d).length) : atoi (padV n d) = some (n : Int) := by
  have h1 : decFrom 0 (padV n d) = some n := by
    unfold padV
    rw [decFrom_app _ _ 0 0 (decFrom_zeros _)]
    exact decFrom_digits n
  have hd := padV_dig n d
  generalize padV n d = l at *
  cases l with
  | nil => simp at h
  | cons b r =>
    have hb := hd b (by simp)
    unfold IsDig at hb
    have h45 : (b == 45) = false := by
      rw [beq_eq_false_iff_ne]
      rintro rfl
      revert hb
      decide
    have h43 : (b == 43) = false := by
      rw [beq_eq_false_iff_ne]
      rintro rfl
      revert hb
      decide
    unfold atoi
    simp only [h45, h43]
    unfold decNat
    simp only [List.isEmpty_cons]
    rw [if_neg (by decide), if_neg (by decide), if_neg (by decide), h1]
    rfl
/-- The remainder of the digits. -/
def remV (l : List UInt8) : Nat := l.foldl (fun r c => (r * 10 + (c.toNat - 48)) % 97) 0
theorem remV_snoc (l : List UInt8) (c : UInt8) : remV (l ++ [c]) = (remV l * 10 + (c.toNat - 48)) % 97 := by
  unfold remV
  rw [List.foldl_append]
  rfl
theorem remV_lt (l : List UInt8) : remV l < 97 := by
  rcases List.eq_nil_or_concat l with rfl | ⟨m, c, rfl⟩
  · decide
  · rw [List.concat_eq_append, remV_snoc]
    exact Nat.mod_lt _ (by decide)
def chkV (l : List UInt8) : Nat := 98 - remV l * 100 % 97
theorem chkV_bd (l : List UInt8) : 2 ≤ chkV l ∧ chkV l ≤ 98 := by
  unfold chkV
  have := Nat.mod_lt (remV l * 100) (show 0 < 97 by decide)
  omega
/-- The number and its check digits. -/
def numV (n d : Nat) : List UInt8 := padV n d ++ padV (chkV (padV n d)) 2
theorem numV_len {n d : Nat} (h : (decDigits n).length ≤ d) : (numV n d).length = d + 2 := by
  unfold numV
  rw [List.length_append, padV_len h, padV_len (decDigits_len2 _ (by have := chkV_bd (padV n d); omega)).2]
theorem numV_dig (n d : Nat) : ∀ b ∈ numV n d, IsDig b := by
  intro b hb
  rcases List.mem_append.1 hb with hb | hb
  · exact padV_dig _ _ b hb
  · exact padV_dig _ _ b hb
theorem numV_take {n d : Nat} (h : (decDigits n).length ≤ d) : (numV n d).take d = padV n d := by
  unfold numV
  rw [List.take_append_of_le_length (by rw [padV_len h]; exact Nat.le_refl _), List.take_of_length_le (by rw [padV_len h]; exact Nat.le_refl _)]
end Go.Proofs.YtcpjpmijfjdifaaGreatDoor
