/-
  Bits and checksums: plain. No program in sight. Own text.
-/
import Derived.Laws.Closers25b
import Derived.Laws.Bits64b
namespace Go.Proofs.YtnnnihjagjfkdaaGreatDoor
set_option linter.unusedVariables false
theorem bv32 {a : Int} (h0 : 0 ≤ a) (h1 : a < 4294967296) : (BitVec.ofInt 32 a).toNat = a.toNat := by
  obtain ⟨n, rfl⟩ := Int.eq_ofNat_of_zero_le h0
  rw [BitVec.ofInt_natCast, BitVec.toNat_ofNat]
  simp only [Int.toNat_natCast]
  exact Nat.mod_eq_of_lt (by omega)
theorem bits_and15 {x : Int} (h0 : 0 ≤ x) (h1 : x < 4294967296) : bits .and .u32 x 15 = ((x.toNat % 16 : Nat) : Int) := by
  show IntKind.u32.wrap ((BitVec.ofInt 32 x &&& BitVec.ofInt 32 15).toNat : Int) = _
  rw [BitVec.toNat_and, bv32 h0 h1, bv32 (by omega) (by omega)]
  have e : x.toNat &&& (15 : Int).toNat = x.toNat % 16 := Nat.and_two_pow_sub_one_eq_mod x.toNat 4
  rw [e, IntKind.wrap_u32]
  omega
/-- The table of the checksum. -/
def stepsTab : List Int := [0, 498536548, 997073096, 651767980, 1994146192, 1802195444, 1303535960, 1342533948, 3988292384, 4027552580, 3604390888, 3412177804, 2607071920, 2262029012, 2685067896, 3183342108]
def sumHalf (x : Int) : Int := bits .xor .u32 (x / 16) (stepsTab.getD (x.toNat % 16) 0)
def sumByte (r : Int) (c : UInt8) : Int := sumHalf (sumHalf (bits .xor .u32 r (c.toNat : Int)))
/-- The register behind the bytes. -/
def sumFrom (r : Int) (l : List UInt8) : Int := l.foldl sumByte r
theorem sumHalf_bd (x : Int) : 0 ≤ sumHalf x ∧ sumHalf x < 4294967296 := by
  unfold sumHalf
  have h1 := bits_lo_u32 .xor (x / 16) (stepsTab.getD (x.toNat % 16) 0)
  have h2 := bits_hi_u32 .xor (x / 16) (stepsTab.getD (x.toNat % 16) 0)
  omega
theorem sumByte_bd (r : Int) (c : UInt8) : 0 ≤ sumByte r c ∧ sumByte r c < 4294967296 := sumHalf_bd _
theorem sumFrom_bd (l : List UInt8) : ∀ (r : Int), 0 ≤ r → r < 4294967296 → 0 ≤ sumFrom r l ∧ sumFrom r l < 4294967296 := by
  induction l with
  | nil => intro r h0 h1; exact ⟨h0, h1⟩
  | cons c l ih => intro r h0 h1; exact ih _ (sumByte_bd r c).1 (sumByte_bd r c).2
theorem sumFrom_snoc (r : Int) (l : List UInt8) (c : UInt8) : sumFrom r (l ++ [c]) = sumByte (sumFrom r l) c := by
  unfold sumFrom
  rw [List.foldl_append]
  rfl
/-- The checksum. -/
def sumV (l : List UInt8) : Int := bits .xor .u32 IntKind.u32.max (sumFrom 4294967295 l)
theorem sumV_bd (l : List UInt8) : 0 ≤ sumV l ∧ sumV l < 4294967296 := by
  have h1 := bits_lo_u32 .xor IntKind.u32.max (sumFrom 4294967295 l)
  have h2 := bits_hi_u32 .xor IntKind.u32.max (sumFrom 4294967295 l)
  unfold sumV
  omega
theorem take_snocB (s : ByteArray) (k : Nat) (h : k < s.size) : s.data.toList.take (k + 1) = s.data.toList.take k ++ [s[k]] := by
  rw [List.take_succ_eq_append_getElem (by simpa using h)]
  rfl
end Go.Proofs.YtnnnihjagjfkdaaGreatDoor
