/-
  How a text's code is read: plain. Own text.
-/
import Derived.Test.YtnnnihjagjfkdaaGreatDoorGroupV
namespace Go.Proofs.YtnnnihjagjfkdaaGreatDoor
set_option linter.unusedVariables false
def inDig (c : UInt8) : Bool := decide (33 ≤ c.toNat) && decide (c.toNat ≤ 117)
theorem inDig_yes {c : UInt8} (h : inDig c = true) : 33 ≤ c.toNat ∧ c.toNat ≤ 117 := by
  unfold inDig at h
  simpa using h
/-- What stands at place k of five. -/
def dAt (l : List UInt8) (k : Nat) : Int := if k < l.length then ((l.getD k 0).toNat : Int) - 33 else 84
def accV (l : List UInt8) : Nat → Int
  | 0 => 0
  | k + 1 => accV l k * 85 + dAt l k
theorem dAt_bd {l : List UInt8} (h : l.all inDig = true) (k : Nat) : 0 ≤ dAt l k ∧ dAt l k ≤ 84 := by
  unfold dAt
  split
  · rename_i hk
    have h1 := inDig_yes (List.all_eq_true.1 h _ (List.getElem_mem hk))
    rw [List.getD_eq_getElem?_getD, List.getElem?_eq_getElem hk, Option.getD_some]
    omega
  · omega
theorem accV_bd {l : List UInt8} (h : ∀ j, j < l.length → j < 5 → inDig (l.getD j 0) = true) : ∀ k, k ≤ 5 → 0 ≤ accV l k ∧ accV l k < p85 k
  | 0, _ => by simp [accV, p85]
  | k + 1, hk => by
    have ih := accV_bd h k (by omega)
    have hd : 0 ≤ dAt l k ∧ dAt l k ≤ 84 := by
      unfold dAt
      split
      · rename_i hk2
        have h1 := inDig_yes (h k hk2 (by omega))
        omega
      · omega
    show 0 ≤ accV l k * 85 + dAt l k ∧ accV l k * 85 + dAt l k < p85 (k + 1)
    match k, hk, ih with
    | 0, _, ih => simp only [p85] at ih ⊢; omega
    | 1, _, ih => simp only [p85] at ih ⊢; omega
    | 2, _, ih => simp only [p85] at ih ⊢; omega
    | 3, _, ih => simp only [p85] at ih ⊢; omega
    | 4, _, ih => simp only [p85] at ih ⊢; omega
def b8 (v : Int) : UInt8 := UInt8.ofNat (v % 256).toNat
theorem b8_toNat (v : Int) : ((b8 v).toNat : Int) = v % 256 := by
  have h0 := Int.emod_nonneg v (show (256 : Int) ≠ 0 by omega)
  have h1 := Int.emod_lt_of_pos v (show (0 : Int) < 256 by omega)
  unfold b8
  rw [UInt8.toNat_ofNat_of_lt' (by show (v % 256).toNat < 256; omega)]
  omega
/-- The four bytes of a number. -/
def by4 (v : Int) : List UInt8 := [b8 (v / 16777216), b8 (v / 65536), b8 (v / 256), b8 v]
/-- What two to five characters code. -/
def ungV (l : List UInt8) : Option (List UInt8) :=
  if l.all inDig = true ∧ l.length ≠ 1 ∧ accV l 5 < 4294967296 ∧ groupV ((by4 (accV l 5)).take (l.length - 1)) = l then some ((by4 (accV l 5)).take (l.length - 1)) else none
/-- What a code means. -/
def unV : Nat → List UInt8 → Option (List UInt8)
  | _, [] => some []
  | 0, _ :: _ => none
  | n + 1, c :: r => if c = 122 then (unV n r).map fun t => [0, 0, 0, 0] ++ t else match ungV ((c :: r).take 5) with
    | none => none
    | some b => (unV n ((c :: r).drop 5)).map fun t => b ++ t
theorem unV_fuel (n : Nat) : ∀ (m : Nat) (l : List UInt8), l.length ≤ n → l.length ≤ m → unV n l = unV m l := by
  induction n with
  | zero => intro m l h1 h2; cases l with
    | nil => cases m <;> rfl
    | cons c r => simp at h1
  | succ n ih =>
    intro m l h1 h2
    cases l with
    | nil => cases m <;> rfl
    | cons c r =>
      cases m with
      | zero => simp at h2
      | succ m =>
        simp only [List.length_cons] at h1 h2
        unfold unV
        rw [ih m r (by omega) (by omega), ih m ((c :: r).drop 5) (by simp; omega) (by simp; omega)]
def unText (l : List UInt8) : Option (List UInt8) := unV l.length l
theorem unText_nil : unText [] = some [] := rfl
theorem unText_z (r : List UInt8) : unText (122 :: r) = (unText r).map fun t => [0, 0, 0, 0] ++ t := by
  unfold unText
  show (if (122 : UInt8) = 122 then _ else _) = _
  rw [if_pos rfl]
theorem unText_g {l : List UInt8} (h : l ≠ []) (hz : l.getD 0 0 ≠ 122) : unText l = match ungV (l.take 5) with
    | none => none
    | some b => (unText (l.drop 5)).map fun t => b ++ t := by
  cases l with
  | nil => exact absurd rfl h
  | cons c r =>
    have hc : ¬ c = 122 := hz
    unfold unText
    show (if c = 122 then _ else _) = _
    rw [if_neg hc, unV_fuel r.length ((c :: r).drop 5).length ((c :: r).drop 5) (by simp) (Nat.le_refl _)]
/-- What Decode gives: the code and the text have their bounds. -/
def decText (l : List UInt8) : Option (List UInt8) := match unText l with
  | none => none
  | some t => if l.length ≤ 65536 ∧ t.length ≤ 16384 then some t else none
/-- A job's text in a record. -/
def decV (l : List UInt8) : List UInt8 × Bool :=
  match l with
  | [] => ([], false)
  | c :: r => if c = 61 then match decText r with
    | none => ([], false)
    | some t => (t, decide (t.length ≤ 256)) else ([], false)
end Go.Proofs.YtnnnihjagjfkdaaGreatDoor
