/-
  Groups of four bytes written with 85 digits: plain. No program in sight. Own text.
-/
import Derived.Test.YtnnnihjagjfkdaaGreatDoorSumV
namespace Go.Proofs.YtnnnihjagjfkdaaGreatDoor
set_option linter.unusedVariables false
def byteAt (l : List UInt8) (k : Nat) : Int := ((l.getD k 0).toNat : Int)
theorem byteAt_bd (l : List UInt8) (k : Nat) : 0 ≤ byteAt l k ∧ byteAt l k < 256 := by
  unfold byteAt
  have := (l.getD k 0).toNat_lt
  omega
def numTo (l : List UInt8) : Nat → Int
  | 0 => 0
  | k + 1 => numTo l k * 256 + byteAt l k
def p256 : Nat → Int
  | 0 => 1
  | 1 => 256
  | 2 => 65536
  | 3 => 16777216
  | _ => 4294967296
theorem numTo_bd (l : List UInt8) (k : Nat) (h : k ≤ 4) : 0 ≤ numTo l k ∧ numTo l k < p256 k := by
  have b0 := byteAt_bd l 0
  have b1 := byteAt_bd l 1
  have b2 := byteAt_bd l 2
  have b3 := byteAt_bd l 3
  match k, h with
  | 0, _ => simp [numTo, p256]
  | 1, _ => simp only [numTo, p256]; omega
  | 2, _ => simp only [numTo, p256]; omega
  | 3, _ => simp only [numTo, p256]; omega
  | 4, _ => simp only [numTo, p256]; omega
theorem numTo_small (l : List UInt8) (k : Nat) (h : k < 4) : 0 ≤ numTo l k ∧ numTo l k < 16777216 := by
  have := numTo_bd l k (by omega)
  match k, h with
  | 0, _ => simp only [p256] at this; omega
  | 1, _ => simp only [p256] at this; omega
  | 2, _ => simp only [p256] at this; omega
  | 3, _ => simp only [p256] at this; omega
theorem bits_or256 {a c : Int} (h0 : 0 ≤ a) (h1 : a < 16777216) (c0 : 0 ≤ c) (c1 : c < 256) : bits .or .u32 (a * 256) c = a * 256 + c := by
  show IntKind.u32.wrap ((BitVec.ofInt 32 (a * 256) ||| BitVec.ofInt 32 c).toNat : Int) = _
  rw [BitVec.toNat_or, bv32 (by omega) (by omega), bv32 c0 (by omega)]
  obtain ⟨n, rfl⟩ := Int.eq_ofNat_of_zero_le h0
  obtain ⟨m, rfl⟩ := Int.eq_ofNat_of_zero_le c0
  have e : (((n : Int) * 256).toNat ||| (m : Int).toNat) = n * 256 + m := by
    have e1 : ((n : Int) * 256).toNat = n <<< 8 := by rw [Nat.shiftLeft_eq]; omega
    rw [e1, Int.toNat_natCast, ← Nat.shiftLeft_add_eq_or_of_lt (by omega), Nat.shiftLeft_eq]
  rw [e, IntKind.wrap_u32]
  omega
def p85 : Nat → Int
  | 0 => 1
  | 1 => 85
  | 2 => 7225
  | 3 => 614125
  | 4 => 52200625
  | _ => 4437053125
/-- Digit j of five. -/
def digV (v : Int) (j : Nat) : Int := 33 + v / p85 (4 - j) % 85
theorem digV_bd {v : Int} (h0 : 0 ≤ v) (j : Nat) : 33 ≤ digV v j ∧ digV v j ≤ 117 := by
  unfold digV
  generalize v / p85 (4 - j) = q
  omega
def digC (v : Int) (j : Nat) : UInt8 := UInt8.ofNat (digV v j).toNat
theorem digC_toNat {v : Int} (h0 : 0 ≤ v) (j : Nat) : ((digC v j).toNat : Int) = digV v j := by
  have h := digV_bd h0 j
  unfold digC
  rw [UInt8.toNat_ofNat_of_lt' (by show (digV v j).toNat < 256; omega)]
  omega
/-- The code of one to four bytes. -/
def groupV (l : List UInt8) : List UInt8 := if numTo l 4 = 0 ∧ l.length = 4 then [122] else (List.range (l.length + 1)).map (digC (numTo l 4))
theorem groupV_len (l : List UInt8) : 1 ≤ (groupV l).length ∧ (groupV l).length ≤ l.length + 1 := by
  unfold groupV
  split <;> simp
/-- The code of a text. -/
def textV : Nat → List UInt8 → List UInt8
  | 0, _ => []
  | n + 1, l => groupV (l.take 4) ++ textV n (l.drop 4)
/-- How many groups. -/
def manyG (l : List UInt8) : Nat := (l.length + 3) / 4
def encText (l : List UInt8) : List UInt8 := textV (manyG l) l
theorem encText_nil : encText [] = [] := rfl
theorem encText_step {l : List UInt8} (h : l ≠ []) : encText l = groupV (l.take 4) ++ encText (l.drop 4) := by
  have hl : 0 < l.length := List.length_pos_iff.2 h
  unfold encText
  have e : manyG l = manyG (l.drop 4) + 1 := by
    unfold manyG
    rw [List.length_drop]
    omega
  rw [e]
  rfl
theorem textV_len (n : Nat) : ∀ l : List UInt8, (textV n l).length ≤ 5 * n := by
  induction n with
  | zero => intro l; simp [textV]
  | succ n ih =>
    intro l
    have h1 := groupV_len (l.take 4)
    have h2 := ih (l.drop 4)
    simp only [textV, List.length_append]
    have : (l.take 4).length ≤ 4 := List.length_take_le _ _
    omega
theorem encText_len (l : List UInt8) : (encText l).length ≤ 5 * ((l.length + 3) / 4) := textV_len _ _
end Go.Proofs.YtnnnihjagjfkdaaGreatDoor
