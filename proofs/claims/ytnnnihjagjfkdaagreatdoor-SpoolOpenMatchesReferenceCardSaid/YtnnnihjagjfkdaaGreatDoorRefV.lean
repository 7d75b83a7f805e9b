/-
  The reference's checksum, bit by bit, and its numbers: plain, no program in sight. Own text.
-/
import Derived.Test.YtnnnihjagjfkdaaGreatDoorHist
namespace Go.Proofs.YtnnnihjagjfkdaaGreatDoor
open Go.RowKit
set_option linter.unusedVariables false
/-- The polynomial. -/
def bvP : BitVec 32 := 3988292384#32
def bvC (b : Bool) (x : BitVec 32) : BitVec 32 := if b then x else 0#32
/-- One bit of the checksum, on bit vectors. -/
def bvS (x : BitVec 32) : BitVec 32 := (x >>> 1) ^^^ bvC (x.getLsbD 0) bvP
theorem bvC_xor (a b : Bool) (x : BitVec 32) : bvC (a ^^ b) x = bvC a x ^^^ bvC b x := by
  cases a <;> cases b <;> simp [bvC]
theorem bvC_shr (b : Bool) (x : BitVec 32) (n : Nat) : (bvC b x) >>> n = bvC b (x >>> n) := by
  cases b <;> simp [bvC]
theorem bvC_low (b : Bool) (i : Nat) (h : i < 5) : (bvC b bvP).getLsbD i = false := by
  cases b
  · simp [bvC]
  · match i, h with
    | 0, _ => rfl
    | 1, _ => rfl
    | 2, _ => rfl
    | 3, _ => rfl
    | 4, _ => rfl
theorem bvS_low (x : BitVec 32) (i : Nat) (h : i < 5) : (bvS x).getLsbD i = x.getLsbD (i + 1) := by
  unfold bvS
  rw [BitVec.getLsbD_xor, bvC_low _ i h, BitVec.getLsbD_ushiftRight, Bool.xor_false, Nat.add_comm]
/-- What four bits make. -/
def bvT (b0 b1 b2 b3 : Bool) : BitVec 32 := bvC b0 (bvP >>> 3) ^^^ bvC b1 (bvP >>> 2) ^^^ bvC b2 (bvP >>> 1) ^^^ bvC b3 bvP
theorem bvS_four (x : BitVec 32) : bvS (bvS (bvS (bvS x))) = (x >>> 4) ^^^ bvT (x.getLsbD 0) (x.getLsbD 1) (x.getLsbD 2) (x.getLsbD 3) := by
  have h1 : (bvS x).getLsbD 0 = x.getLsbD 1 := bvS_low x 0 (by omega)
  have h1' : (bvS x).getLsbD 1 = x.getLsbD 2 := bvS_low x 1 (by omega)
  have h1'' : (bvS x).getLsbD 2 = x.getLsbD 3 := bvS_low x 2 (by omega)
  have h2 : (bvS (bvS x)).getLsbD 0 = x.getLsbD 2 := by rw [bvS_low _ 0 (by omega), h1']
  have h2' : (bvS (bvS x)).getLsbD 1 = x.getLsbD 3 := by rw [bvS_low _ 1 (by omega), h1'']
  have h3 : (bvS (bvS (bvS x))).getLsbD 0 = x.getLsbD 3 := by rw [bvS_low _ 0 (by omega), h2']
  have e1 : bvS x = (x >>> 1) ^^^ bvC (x.getLsbD 0) bvP := rfl
  have e2 : bvS (bvS x) = (bvS x >>> 1) ^^^ bvC (x.getLsbD 1) bvP := by rw [← h1]; rfl
  have e3 : bvS (bvS (bvS x)) = (bvS (bvS x) >>> 1) ^^^ bvC (x.getLsbD 2) bvP := by rw [← h2]; rfl
  have e4 : bvS (bvS (bvS (bvS x))) = (bvS (bvS (bvS x)) >>> 1) ^^^ bvC (x.getLsbD 3) bvP := by rw [← h3]; rfl
  rw [e4, e3, e2, e1]
  simp only [BitVec.ushiftRight_xor_distrib, bvC_shr, ← BitVec.shiftRight_add, bvT]
  simp only [BitVec.xor_assoc]
/-- The table's entry. -/
def tabB (n : Nat) : BitVec 32 := BitVec.ofInt 32 (stepsTab.getD n 0)
theorem bvT_tab : ∀ b0 b1 b2 b3 : Bool, bvT b0 b1 b2 b3 = tabB (b0.toNat + 2 * b1.toNat + 4 * b2.toNat + 8 * b3.toNat) := by decide
theorem low_bits : ∀ n, n < 16 → n = (n.testBit 0).toNat + 2 * (n.testBit 1).toNat + 4 * (n.testBit 2).toNat + 8 * (n.testBit 3).toNat := by decide
theorem bvS_tab (x : BitVec 32) : bvS (bvS (bvS (bvS x))) = (x >>> 4) ^^^ tabB (x.toNat % 16) := by
  rw [bvS_four, bvT_tab]
  congr 2
  have h := low_bits (x.toNat % 16) (Nat.mod_lt _ (by omega))
  have hb : ∀ i, i < 4 → (x.toNat % 16).testBit i = x.getLsbD i := fun i hi => by
    have e : x.toNat % 16 = x.toNat % 2 ^ 4 := rfl
    rw [e, Nat.testBit_mod_two_pow, decide_eq_true hi, Bool.true_and]
    rfl
  rw [hb 0 (by omega), hb 1 (by omega), hb 2 (by omega), hb 3 (by omega)] at h
  exact h.symm
/-- A number as a bit vector. -/
def bvI (x : Int) : BitVec 32 := BitVec.ofInt 32 x
theorem bvI_toNat {x : Int} (h0 : 0 ≤ x) (h1 : x < 4294967296) : (bvI x).toNat = x.toNat := bv32 h0 h1
theorem bvI_of (b : BitVec 32) : bvI (b.toNat : Int) = b := by
  unfold bvI
  rw [BitVec.ofInt_natCast, BitVec.ofNat_toNat, BitVec.setWidth_eq]
theorem bits_xor (a b : Int) : bits .xor .u32 a b = ((bvI a ^^^ bvI b).toNat : Int) := by
  show IntKind.u32.wrap ((BitVec.ofInt 32 a ^^^ BitVec.ofInt 32 b).toNat : Int) = _
  have h := (BitVec.ofInt 32 a ^^^ BitVec.ofInt 32 b).isLt
  rw [IntKind.wrap_u32]
  show ((BitVec.ofInt 32 a ^^^ BitVec.ofInt 32 b).toNat : Int) % 4294967296 = ((BitVec.ofInt 32 a ^^^ BitVec.ofInt 32 b).toNat : Int)
  omega
theorem bvI_xor (a b : Int) : bvI (bits .xor .u32 a b) = bvI a ^^^ bvI b := by rw [bits_xor, bvI_of]
theorem bvI_shr {x : Int} (h0 : 0 ≤ x) (h1 : x < 4294967296) (n : Nat) : bvI (x / 2 ^ n) = (bvI x) >>> n := by
  obtain ⟨m, rfl⟩ := Int.eq_ofNat_of_zero_le h0
  apply BitVec.eq_of_toNat_eq
  have h2 : ((m : Int) / 2 ^ n) = ((m / 2 ^ n : Nat) : Int) := by simp
  have h3 : m / 2 ^ n ≤ m := Nat.div_le_self _ _
  rw [h2]
  obtain ⟨d, hd⟩ : ∃ d, d = m / 2 ^ n := ⟨_, rfl⟩
  rw [← hd] at h3
  rw [← hd, bvI_toNat (by omega) (by omega), BitVec.toNat_ushiftRight, bvI_toNat h0 h1, Nat.shiftRight_eq_div_pow, Int.toNat_natCast, Int.toNat_natCast, hd]
theorem sumHalf_bv {x : Int} (h0 : 0 ≤ x) (h1 : x < 4294967296) : bvI (sumHalf x) = bvS (bvS (bvS (bvS (bvI x)))) := by
  have e : x / 16 = x / 2 ^ 4 := rfl
  rw [bvS_tab, bvI_toNat h0 h1]
  unfold sumHalf
  rw [bvI_xor, e, bvI_shr h0 h1 4]
  rfl
/-- Eight bits. -/
def bvS8 (x : BitVec 32) : BitVec 32 := bvS (bvS (bvS (bvS (bvS (bvS (bvS (bvS x)))))))
theorem sumByte_bv (r : Int) (c : UInt8) : bvI (sumByte r c) = bvS8 (bvI r ^^^ bvI (c.toNat : Int)) := by
  have hx0 := bits_lo_u32 .xor r (c.toNat : Int)
  have hx1 := bits_hi_u32 .xor r (c.toNat : Int)
  have hy := sumHalf_bd (bits .xor .u32 r (c.toNat : Int))
  unfold sumByte
  rw [sumHalf_bv hy.1 hy.2, sumHalf_bv hx0 (by omega), bvI_xor]
  rfl
/-- A register after one more bit. -/
def stepV (r : Int) (b : Bool) : Int := if ((r % 2 == 1) != b) = true then bits .xor .u32 (r / 2) 3988292384 else r / 2
theorem stepV_bd {r : Int} (h0 : 0 ≤ r) (h1 : r < 4294967296) (b : Bool) : 0 ≤ stepV r b ∧ stepV r b < 4294967296 := by
  unfold stepV
  split
  · have h2 := bits_lo_u32 .xor (r / 2) 3988292384
    have h3 := bits_hi_u32 .xor (r / 2) 3988292384
    omega
  · omega
theorem bvI_bit0 {r : Int} (h0 : 0 ≤ r) (h1 : r < 4294967296) : (bvI r).getLsbD 0 = (r % 2 == 1) := by
  have h := bvI_toNat h0 h1
  show (bvI r).toNat.testBit 0 = _
  rw [h, Nat.testBit_zero]
  obtain ⟨m, rfl⟩ := Int.eq_ofNat_of_zero_le h0
  rw [Int.toNat_natCast]
  by_cases e : m % 2 = 1
  · have e2 : ((m : Int) % 2 == 1) = true := by rw [beq_iff_eq]; omega
    rw [e2]; simpa using e
  · have e2 : ((m : Int) % 2 == 1) = false := by rw [beq_eq_false_iff_ne]; omega
    rw [e2]; simpa using e
theorem stepV_bv {r : Int} (h0 : 0 ≤ r) (h1 : r < 4294967296) (b : Bool) : bvI (stepV r b) = (bvI r >>> 1) ^^^ bvC ((bvI r).getLsbD 0 ^^ b) bvP := by
  have e : r / 2 = r / 2 ^ 1 := rfl
  rw [bvI_bit0 h0 h1]
  unfold stepV
  have hx : ((r % 2 == 1) != b) = ((r % 2 == 1) ^^ b) := by cases (r % 2 == 1) <;> cases b <;> rfl
  rw [hx]
  cases ((r % 2 == 1) ^^ b)
  · rw [if_neg (by decide), e, bvI_shr h0 h1 1]
    simp [bvC]
  · rw [if_pos rfl, bvI_xor, e, bvI_shr h0 h1 1]
    rfl
/-- The register behind t bits of a byte. -/
def bitsV (r : Int) (c : UInt8) : Nat → Int
  | 0 => r
  | t + 1 => stepV (bitsV r c t) ((c.toNat / 2 ^ t) % 2 == 1)
theorem bitsV_bd {r : Int} (c : UInt8) (h0 : 0 ≤ r) (h1 : r < 4294967296) : ∀ t, 0 ≤ bitsV r c t ∧ bitsV r c t < 4294967296
  | 0 => ⟨h0, h1⟩
  | t + 1 => stepV_bd (bitsV_bd c h0 h1 t).1 (bitsV_bd c h0 h1 t).2 _
def bvN : Nat → BitVec 32 → BitVec 32
  | 0, x => x
  | t + 1, x => bvS (bvN t x)
theorem bitsV_bv {r : Int} (c : UInt8) (h0 : 0 ≤ r) (h1 : r < 4294967296) : ∀ t, bvI (bitsV r c t) ^^^ (bvI (c.toNat : Int) >>> t) = bvN t (bvI r ^^^ bvI (c.toNat : Int))
  | 0 => by simp [bitsV, bvN]
  | t + 1 => by
    have ih := bitsV_bv c h0 h1 t
    have hb := bitsV_bd c h0 h1 t
    have hc := c.toNat_lt
    show bvI (stepV (bitsV r c t) _) ^^^ _ = bvS (bvN t _)
    rw [← ih, stepV_bv hb.1 hb.2]
    have hbit : ((c.toNat / 2 ^ t) % 2 == 1) = (bvI (c.toNat : Int) >>> t).getLsbD 0 := by
      rw [BitVec.getLsbD_ushiftRight]
      show _ = (bvI (c.toNat : Int)).toNat.testBit (t + 0)
      rw [bvI_toNat (by omega) (by omega), Int.toNat_natCast, Nat.add_zero, Nat.testBit_eq_decide_div_mod_eq]
      by_cases e : c.toNat / 2 ^ t % 2 = 1
      · rw [e]; rfl
      · rw [decide_eq_false e, beq_eq_false_iff_ne]; exact e
    rw [hbit]
    unfold bvS
    rw [BitVec.getLsbD_xor, BitVec.ushiftRight_xor_distrib, ← BitVec.shiftRight_add]
    simp only [BitVec.xor_assoc]
    congr 1
    rw [BitVec.xor_comm]
theorem bitsV_byte {r : Int} (c : UInt8) (h0 : 0 ≤ r) (h1 : r < 4294967296) : bitsV r c 8 = sumByte r c := by
  have h := bitsV_bv c h0 h1 8
  have hb := bitsV_bd c h0 h1 8
  have hs := sumByte_bd r c
  have hc := c.toNat_lt
  have hz : bvI (c.toNat : Int) >>> 8 = 0#32 := by
    rw [← bvI_shr (by omega) (by omega) 8]
    have e : ((c.toNat : Int) / 2 ^ 8) = 0 := Int.ediv_eq_zero_of_lt (by omega) (by show (c.toNat : Int) < 256; omega)
    rw [e]; rfl
  rw [hz, BitVec.xor_zero] at h
  have h2 : bvI (bitsV r c 8) = bvI (sumByte r c) := by rw [h, sumByte_bv]; rfl
  have h3 := congrArg BitVec.toNat h2
  rw [bvI_toNat hb.1 hb.2, bvI_toNat hs.1 hs.2] at h3
  omega
/-- The value of a row of digits, at most 2^40; -1: no number. -/
def wholeG (n : Int) : List UInt8 → Int
  | [] => n
  | c :: r => if 48 ≤ c.toNat ∧ c.toNat ≤ 57 then wholeG (min (n * 10 + (c.toNat : Int) - 48) 1099511627776) r else -1
def wholeV (l : List UInt8) : Int := if l = [] then -1 else wholeG 0 l
/-- A number without leading zeros. -/
def bigV (l : List UInt8) : Int := if (1 < l.length ∧ l.getD 0 0 = 48) ∨ 12 < l.length then -1 else wholeV l
theorem wholeG_dec : ∀ (l : List UInt8) (n k : Nat), n < 10 ^ k → l.length + k ≤ 12 → wholeG n l = match Lib.decFrom n l with | some v => (v : Int) | none => -1
  | [], n, k, _, _ => rfl
  | c :: r, n, k, hn, hl => by
    have hl' : r.length + 1 + k ≤ 12 := by simpa using hl
    unfold wholeG Lib.decFrom
    unfold Lib.digitVal
    by_cases hd : 48 ≤ c.toNat ∧ c.toNat ≤ 57
    · rw [if_pos hd, if_pos hd]
      have h12 : (10 : Nat) ^ (k + 1) ≤ 10 ^ 12 := Nat.pow_le_pow_right (by decide) (by omega)
      have e12 : (10 : Nat) ^ 12 = 1000000000000 := by decide
      have hs : n * 10 + (c.toNat - 48) < 10 ^ (k + 1) := by rw [Nat.pow_succ]; omega
      have e : min ((n : Int) * 10 + (c.toNat : Int) - 48) 1099511627776 = ((n * 10 + (c.toNat - 48) : Nat) : Int) := by omega
      rw [e]
      exact wholeG_dec r _ (k + 1) hs (by omega)
    · rw [if_neg hd, if_neg hd]
theorem decFrom_lt10 : ∀ (l : List UInt8) (n k v : Nat), n < 10 ^ k → Lib.decFrom n l = some v → v < 10 ^ (k + l.length)
  | [], n, k, v, hn, h => by
    simp only [Lib.decFrom, Option.some.injEq] at h
    simpa [← h] using hn
  | c :: r, n, k, v, hn, h => by
    unfold Lib.decFrom at h
    cases hd : Lib.digitVal c with
    | none => rw [hd] at h; cases h
    | some d =>
      rw [hd] at h
      have hd9 : d ≤ 9 := by
        unfold Lib.digitVal at hd
        split at hd
        · simp only [Option.some.injEq] at hd; omega
        · cases hd
      have := decFrom_lt10 r (n * 10 + d) (k + 1) v (by rw [Nat.pow_succ]; omega) h
      rw [List.length_cons]
      rw [show k + (r.length + 1) = k + 1 + r.length by omega]
      exact this
theorem decFrom_app : ∀ (l : List UInt8) (n : Nat) (c : UInt8) (v : Nat), Lib.decFrom n (l ++ [c]) = some v → ∃ u d, Lib.decFrom n l = some u ∧ Lib.digitVal c = some d ∧ v = u * 10 + d
  | [], n, c, v, h => by
    simp only [List.nil_append, Lib.decFrom] at h
    cases hd : Lib.digitVal c with
    | none => rw [hd] at h; cases h
    | some d =>
      rw [hd] at h
      simp only [Option.some.injEq] at h
      exact ⟨n, d, rfl, rfl, h.symm⟩
  | a :: r, n, c, v, h => by
    simp only [List.cons_append, Lib.decFrom] at h ⊢
    cases hd : Lib.digitVal a with
    | none => rw [hd] at h; cases h
    | some d =>
      rw [hd] at h
      simp only at h ⊢
      exact decFrom_app r _ c v h
/-- Digits without leading zeros are the number's own. -/
theorem digits_of (n : Nat) : ∀ (l : List UInt8) (u : Nat), l.length = n + 1 → Lib.decFrom 0 l = some u → (l.length = 1 ∨ l.getD 0 0 ≠ 48) → Lib.decDigits u = l := by
  induction n with
  | zero =>
    intro l u hl h _
    match l, hl with
    | [c], _ =>
      obtain ⟨a, d, h1, h2, h3⟩ := decFrom_app [] 0 c u h
      simp only [Lib.decFrom, Option.some.injEq] at h1
      subst h1
      unfold Lib.digitVal at h2
      split at h2
      · simp only [Option.some.injEq] at h2
        rw [Lib.decDigits, dif_pos (by omega)]
        congr 1
        apply UInt8.toNat_inj.1
        rw [UInt8.toNat_ofNat_of_lt' (by show 48 + u < 256; omega)]
        omega
      · cases h2
  | succ n ih =>
    intro l u hl h hz
    rcases List.eq_nil_or_concat l with e | ⟨r, c, e⟩
    · rw [e] at hl; simp at hl
    · rw [List.concat_eq_append] at e
      subst e
      rw [List.length_append, List.length_singleton] at hl
      obtain ⟨v, d, h1, h2, h3⟩ := decFrom_app r 0 c u h
      have hz2 : (r ++ [c]).getD 0 0 ≠ 48 := by
        rcases hz with hz | hz
        · rw [List.length_append, List.length_singleton] at hz; omega
        · exact hz
      have hr0 : r.getD 0 0 = (r ++ [c]).getD 0 0 := by
        rw [List.getD_eq_getElem?_getD, List.getD_eq_getElem?_getD, List.getElem?_append_left (by omega)]
      have hr := ih r v (by omega) h1 (.inr (by rw [hr0]; exact hz2))
      unfold Lib.digitVal at h2
      split at h2
      · simp only [Option.some.injEq] at h2
        have hv : 1 ≤ v := by
          rcases Nat.eq_zero_or_pos v with e0 | e0
          · rw [e0, Lib.decDigits_one (by omega)] at hr
            have h48 : r.getD 0 0 = 48 := by rw [← hr]; rfl
            exact absurd (hr0.symm.trans h48) hz2
          · exact e0
        rw [Lib.decDigits, dif_neg (by omega)]
        have e1 : u / 10 = v := by omega
        have e2 : u % 10 = d := by omega
        rw [e1, e2, hr]
        congr 2
        apply UInt8.toNat_inj.1
        rw [UInt8.toNat_ofNat_of_lt' (by show 48 + d < 256; omega)]
        omega
      · cases h2
/-- A number of the reference is one of the program. -/
theorem big_some {l : List UInt8} (h : 0 ≤ bigV l) : numV l = (bigV l, true) ∧ bigV l < 1000000000000 := by
  unfold bigV at h ⊢
  split at h
  · omega
  · rename_i hn
    rw [if_neg hn]
    have hn1 : ¬ (1 < l.length ∧ l.getD 0 0 = 48) := fun e => hn (.inl e)
    have hn2 : l.length ≤ 12 := by
      rcases Nat.lt_or_ge 12 l.length with e | e
      · exact absurd (.inr e) hn
      · exact e
    unfold wholeV at h ⊢
    split at h
    · omega
    · rename_i hne
      rw [if_neg hne]
      have hpos : 0 < l.length := List.length_pos_iff.2 hne
      have hd := wholeG_dec l 0 0 (by decide) (by omega)
      have hd' : wholeG 0 l = match Lib.decFrom 0 l with | some v => (v : Int) | none => -1 := hd
      rw [hd'] at h ⊢
      cases hv : Lib.decFrom 0 l with
      | none => rw [hv] at h; simp at h
      | some v =>
        have hlt := decFrom_lt10 l 0 0 v (by decide) hv
        have hp : (10 : Nat) ^ (0 + l.length) ≤ 10 ^ 12 := Nat.pow_le_pow_right (by decide) (by omega)
        have e12 : (10 : Nat) ^ 12 = 1000000000000 := by decide
        have hdg := digits_of (l.length - 1) l v (by omega) hv (by
          by_cases e : l.length = 1
          · exact .inl e
          · exact .inr fun e2 => hn1 ⟨by omega, e2⟩)
        have hl : l = Lib.itoa (v : Int) := by
          rw [← hdg]
          unfold Lib.itoa
          rw [if_neg (by omega)]
          simp
        refine ⟨?_, by simp only; omega⟩
        simp only
        conv => lhs; rw [hl]
        exact numV_itoa (by omega) (by omega)
theorem digits_head (u : Nat) (h : 10 ≤ u) : (Lib.decDigits u).getD 0 0 ≠ 48 := by
  induction u using Nat.strongRecOn with
  | _ u ih =>
    rw [Lib.decDigits, dif_neg (by omega)]
    have hp := digits_pos (u / 10)
    rw [List.getD_eq_getElem?_getD, List.getElem?_append_left (by omega), ← List.getD_eq_getElem?_getD]
    by_cases e : u / 10 < 10
    · rw [Lib.decDigits_one e]
      show UInt8.ofNat (48 + u / 10) ≠ 48
      intro h2
      have h3 := congrArg UInt8.toNat h2
      rw [UInt8.toNat_ofNat_of_lt' (by show 48 + u / 10 < 256; omega)] at h3
      have : (48 : UInt8).toNat = 48 := rfl
      omega
    · exact ih (u / 10) (by omega) (by omega)
theorem nDigits_le (u k : Nat) (h : u < 10 ^ (k + 1)) : Lib.nDigits u ≤ k + 1 := by
  induction k generalizing u with
  | zero => rw [Lib.nDigits_small (by simpa using h)]; omega
  | succ k ih =>
    by_cases e : u < 10
    · rw [Lib.nDigits_small e]; omega
    · rw [Lib.nDigits_big e]
      have := ih (u / 10) (by rw [Nat.pow_succ] at h; omega)
      omega
/-- A number of the program, if it is not too large, is one of the reference. -/
theorem big_of {l : List UInt8} (h : (numV l).2 = true) (h1 : (numV l).1 < 1000000000000) : bigV l = (numV l).1 := by
  obtain ⟨h0, hl⟩ := numV_ok h
  obtain ⟨u, hu⟩ := Int.eq_ofNat_of_zero_le h0
  rw [hu] at h1 hl ⊢
  have hl2 : l = Lib.decDigits u := by rw [← hl]; unfold Lib.itoa; rw [if_neg (by omega)]; simp
  have e12 : (10 : Nat) ^ (11 + 1) = 1000000000000 := by decide
  have hlen : l.length ≤ 12 := by rw [hl2, Lib.decDigits_length]; exact nDigits_le u 11 (by omega)
  have hpos : 1 ≤ l.length := by rw [hl2]; exact digits_pos u
  unfold bigV
  rw [if_neg ?_]
  · unfold wholeV
    rw [if_neg (fun e => by rw [e] at hpos; simp at hpos)]
    have hd := wholeG_dec l 0 0 (by decide) (by omega)
    have hd' : wholeG 0 l = match Lib.decFrom 0 l with | some v => (v : Int) | none => -1 := hd
    rw [hd', hl2, dec_digits]
  · rintro (⟨a, b⟩ | b)
    · rw [hl2] at a b
      by_cases e : u < 10
      · rw [Lib.decDigits_one e] at a; simp at a
      · exact digits_head u (by omega) b
    · omega
end Go.Proofs.YtnnnihjagjfkdaaGreatDoor
