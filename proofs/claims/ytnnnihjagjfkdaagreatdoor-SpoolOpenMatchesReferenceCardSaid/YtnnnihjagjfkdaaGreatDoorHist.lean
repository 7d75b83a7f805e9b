/-
  What is written is read again: numbers, codes, words. Plain, no program in sight. What a queue's records say, whole or cut off by a crash. Plain, no program in sight. Own text.
-/
import Derived.Test.YtnnnihjagjfkdaaGreatDoorParV
import Derived.Test.YtnnnihjagjfkdaaGreatDoorDec
import Derived.Test.YtnnnihjagjfkdaaGreatDoorCode
import Derived.Lib.AtoiTie
import Derived.Test.YtnnnihjagjfkdaaGreatDoorOpnV
import Derived.Test.YtnnnihjagjfkdaaGreatDoorSync
namespace Go.Proofs.YtnnnihjagjfkdaaGreatDoor
open Go.RowKit
set_option linter.unusedVariables false
/-- No space and no line feed. -/
def Dense (l : List UInt8) : Prop := ∀ c ∈ l, 33 ≤ c.toNat
theorem Dense.app {a b : List UInt8} (ha : Dense a) (hb : Dense b) : Dense (a ++ b) := fun c hc => by
  rcases List.mem_append.1 hc with h | h
  · exact ha c h
  · exact hb c h
theorem Dense.no32 {l : List UInt8} (h : Dense l) : 32 ∉ l := fun e => by have := h 32 e; revert this; decide
theorem Dense.no10 {l : List UInt8} (h : Dense l) : 10 ∉ l := fun e => by have := h 10 e; revert this; decide
theorem dg_bd (u j : Nat) : 48 ≤ (Lib.dg u j).toNat ∧ (Lib.dg u j).toNat ≤ 57 := by
  unfold Lib.dg
  generalize u / 10 ^ j = x
  rw [UInt8.toNat_ofNat_of_lt' (by show 48 + x % 10 < 256; omega)]
  omega
theorem digits_bd (u : Nat) : ∀ c ∈ Lib.decDigits u, 48 ≤ c.toNat ∧ c.toNat ≤ 57 := fun c hc => by
  rw [Lib.decDigits_eq] at hc
  obtain ⟨t, _, rfl⟩ := List.mem_map.1 hc
  exact dg_bd _ _
theorem itoa_dense (n : Int) : Dense (Lib.itoa n) := fun c hc => by
  unfold Lib.itoa at hc
  split at hc
  · rcases List.mem_cons.1 hc with e | e
    · rw [e]; decide
    · have := (digits_bd _ c e).1; omega
  · have := (digits_bd _ c hc).1; omega
theorem decFrom_snoc : ∀ (l : List UInt8) (acc n : Nat) (c : UInt8) (d : Nat), Lib.decFrom acc l = some n → Lib.digitVal c = some d → Lib.decFrom acc (l ++ [c]) = some (n * 10 + d)
  | [], acc, n, c, d, h, hd => by
    simp only [Lib.decFrom, Option.some.injEq] at h
    subst h
    simp [Lib.decFrom, hd]
  | a :: t, acc, n, c, d, h, hd => by
    simp only [List.cons_append, Lib.decFrom] at h ⊢
    cases ha : Lib.digitVal a with
    | none => simp [ha] at h
    | some e =>
      simp only [ha] at h ⊢
      exact decFrom_snoc t _ n c d h hd
theorem digitVal_of (d : Nat) (h : d < 10) : Lib.digitVal (UInt8.ofNat (48 + d)) = some d := by
  unfold Lib.digitVal
  rw [UInt8.toNat_ofNat_of_lt' (by show 48 + d < 256; omega), if_pos (by omega)]
  congr 1
  omega
theorem dec_digits (u : Nat) : Lib.decFrom 0 (Lib.decDigits u) = some u := by
  induction u using Nat.strongRecOn with
  | _ u ih =>
    by_cases h : u < 10
    · rw [Lib.decDigits, dif_pos h]
      have := decFrom_snoc [] 0 0 (UInt8.ofNat (48 + u)) u rfl (digitVal_of u h)
      simpa using this
    · rw [Lib.decDigits, dif_neg h]
      rw [decFrom_snoc _ 0 (u / 10) _ (u % 10) (ih (u / 10) (by omega)) (digitVal_of _ (by omega))]
      congr 1
      omega
theorem digits_pos (u : Nat) : 1 ≤ (Lib.decDigits u).length := by
  rw [Lib.decDigits_length]; exact Lib.nDigits_pos u
theorem digits_short (u : Nat) (h : u < 1000000000000000000) : (Lib.decDigits u).length ≤ 18 := by
  rw [Lib.decDigits_length]
  rcases Nat.lt_or_ge 18 (Lib.nDigits u) with hlt | hle
  · exfalso
    -- a number with more than eighteen digits
    have key : ∀ k u, k < Lib.nDigits u → 10 ^ k ≤ u ∨ k = 0 := by
      intro k
      induction k with
      | zero => intro u _; exact .inr rfl
      | succ k ih =>
        intro u hu
        by_cases h10 : u < 10
        · rw [Lib.nDigits_small h10] at hu; omega
        · rw [Lib.nDigits_big h10] at hu
          rcases ih (u / 10) (by omega) with h2 | h2
          · left; rw [Nat.pow_succ]; omega
          · left; rw [h2]; omega
    rcases key 18 u hlt with h2 | h2
    · have e18 : (10 : Nat) ^ 18 = 1000000000000000000 := by decide
      omega
    · omega
  · exact hle
theorem atoi_digits (u : Nat) : Lib.atoi (Lib.decDigits u) = some (u : Int) := by
  have h1 := digits_pos u
  have h2 := dec_digits u
  have h3 := digits_bd u
  cases e : Lib.decDigits u with
  | nil => rw [e] at h1; simp at h1
  | cons c r =>
    rw [e] at h2 h3
    have hc := h3 c (by simp)
    have n45 : ¬ (c == 45) = true := fun h => by rw [beq_iff_eq.1 h] at hc; revert hc; decide
    have n43 : ¬ (c == 43) = true := fun h => by rw [beq_iff_eq.1 h] at hc; revert hc; decide
    unfold Lib.atoi
    simp only
    rw [if_neg n45, if_neg n43]
    unfold Lib.decNat
    rw [List.isEmpty_cons, if_neg (by simp), h2]
    rfl
theorem numV_itoa {n : Int} (h0 : 0 ≤ n) (h1 : n < 1000000000000000000) : numV (Lib.itoa n) = (n, true) := by
  obtain ⟨u, rfl⟩ := Int.eq_ofNat_of_zero_le h0
  have e1 : Lib.itoa (u : Int) = Lib.decDigits u := by unfold Lib.itoa; rw [if_neg (by omega)]; simp
  have e2 : Lib.atoiAll (Lib.itoa (u : Int)) = .ok (u : Int) := by
    rw [e1, Lib.atoiAll_short _ (digits_short u (by omega)), atoi_digits]
    rfl
  unfold numV
  rw [e2]
  simp
theorem hexC_bd (x : Int) (i : Nat) : 33 ≤ (hexC x i).toNat := by
  unfold hexC
  have key : ∀ k, k < 16 → 33 ≤ (hexTab.getD k 0).toNat := by decide
  exact key _ (Nat.mod_lt _ (by omega))
theorem hexV_dense (x : Int) : Dense (hexV x) := fun c hc => by
  unfold hexV at hc
  obtain ⟨i, _, rfl⟩ := List.mem_map.1 hc
  exact hexC_bd x i
theorem groupV_dense (l : List UInt8) : Dense (groupV l) := fun c hc => by
  unfold groupV at hc
  split at hc
  · rw [List.mem_singleton.1 hc]; decide
  · obtain ⟨i, _, rfl⟩ := List.mem_map.1 hc
    have h0 := (numTo_bd l 4 (by omega)).1
    have h1 := digC_toNat h0 i
    have h2 := (digV_bd h0 i).1
    omega
theorem textV_dense (n : Nat) : ∀ l, Dense (textV n l) := by
  induction n with
  | zero => intro l c hc; simp [textV] at hc
  | succ n ih => intro l; exact (groupV_dense _).app (ih _)
theorem encText_dense (l : List UInt8) : Dense (encText l) := textV_dense _ l
theorem codedV_dense (l : List UInt8) : Dense (codedV l) := fun c hc => by
  rcases List.mem_cons.1 hc with e | e
  · rw [e]; decide
  · exact encText_dense l c e
/-- The digits of a number below 256^4. -/
structure Digs (v a1 a2 a3 a4 : Int) : Prop where
  r0 : 85 * a1 ≤ v ∧ v < 85 * a1 + 85
  r1 : 85 * a2 ≤ a1 ∧ a1 < 85 * a2 + 85
  r2 : 85 * a3 ≤ a2 ∧ a2 < 85 * a3 + 85
  r3 : 85 * a4 ≤ a3 ∧ a3 < 85 * a4 + 85
  r4 : 0 ≤ a4 ∧ a4 < 85
  d4 : digV v 4 = 33 + (v - 85 * a1)
  d3 : digV v 3 = 33 + (a1 - 85 * a2)
  d2 : digV v 2 = 33 + (a2 - 85 * a3)
  d1 : digV v 1 = 33 + (a3 - 85 * a4)
  d0 : digV v 0 = 33 + a4
theorem digs_of {v : Int} (h0 : 0 ≤ v) (h1 : v < 4294967296) : ∃ a1 a2 a3 a4, Digs v a1 a2 a3 a4 := by
  have e2 : v / 85 / 85 = v / 7225 := by rw [Int.ediv_ediv_of_nonneg (by omega)]; rfl
  have e3 : v / 7225 / 85 = v / 614125 := by rw [Int.ediv_ediv_of_nonneg (by omega)]; rfl
  have e4 : v / 614125 / 85 = v / 52200625 := by rw [Int.ediv_ediv_of_nonneg (by omega)]; rfl
  refine ⟨v / 85, v / 7225, v / 614125, v / 52200625, ?_, ?_, ?_, ?_, ?_, ?_, ?_, ?_, ?_, ?_⟩
  · omega
  · omega
  · omega
  · omega
  · omega
  · show 33 + v / 1 % 85 = _
    rw [Int.ediv_one]; omega
  · show 33 + v / 85 % 85 = _
    omega
  · show 33 + v / 7225 % 85 = _
    omega
  · show 33 + v / 614125 % 85 = _
    omega
  · show 33 + v / 52200625 % 85 = _
    omega
theorem dAt_group {v : Int} (h0 : 0 ≤ v) {n j : Nat} (hj : j < n) : dAt ((List.range n).map (digC v)) j = digV v j - 33 := by
  unfold dAt
  rw [if_pos (by simpa using hj), List.getD_eq_getElem?_getD, List.getElem?_eq_getElem (by simpa using hj), Option.getD_some, List.getElem_map, List.getElem_range, digC_toNat h0]
theorem dAt_past {v : Int} {n j : Nat} (hj : n ≤ j) : dAt ((List.range n).map (digC v)) j = 84 := by
  unfold dAt
  rw [if_neg (by simpa using hj)]
theorem digC_in {v : Int} (h0 : 0 ≤ v) (n : Nat) : ((List.range n).map (digC v)).all inDig = true := by
  rw [List.all_eq_true]
  intro c hc
  obtain ⟨i, _, rfl⟩ := List.mem_map.1 hc
  have h1 := digC_toNat h0 i
  have h2 := digV_bd h0 i
  unfold inDig
  rw [Bool.and_eq_true, decide_eq_true_eq, decide_eq_true_eq]
  omega
theorem u8_eq {c : UInt8} {v : Int} (h : v % 256 = (c.toNat : Int)) : b8 v = c := by
  apply UInt8.toNat_inj.1
  have := b8_toNat v
  omega
theorem grp1 (b0 : UInt8) (v : Int) (hv : v = (b0.toNat : Int) * 16777216) : ∃ A, accV ((List.range 2).map (digC v)) 5 = A ∧ A < 4294967296 ∧ b8 (A / 16777216) = b0 := by
  have B0 := b0.toNat_lt
  have h0 : 0 ≤ v := by omega
  have h1 : v < 4294967296 := by omega
  obtain ⟨a1, a2, a3, a4, ⟨x0, x1⟩, ⟨y0, y1⟩, ⟨z0, z1⟩, ⟨t0, t1⟩, ⟨s0, s1⟩, e4, e3, e2, e1, e0⟩ := digs_of h0 h1
  have hacc : accV ((List.range 2).map (digC v)) 5 = ((((digV v 0 - 33) * 85 + (digV v 1 - 33)) * 85 + 84) * 85 + 84) * 85 + 84 := by
    simp only [accV]
    rw [dAt_group h0 (show 0 < 2 by omega), dAt_group h0 (show 1 < 2 by omega), dAt_past (show 2 ≤ 2 by omega), dAt_past (show 2 ≤ 3 by omega), dAt_past (show 2 ≤ 4 by omega)]
    omega
  generalize accV ((List.range 2).map (digC v)) 5 = A at *
  have hr : v ≤ A ∧ A ≤ v + 614124 := by omega
  clear e4 e3 e2 e1 e0 hacc x0 x1 y0 y1 z0 z1 t0 t1 s0 s1
  exact ⟨A, rfl, by omega, u8_eq (by omega)⟩
theorem grp2 (b0 b1 : UInt8) (v : Int) (hv : v = ((b0.toNat : Int) * 256 + b1.toNat) * 65536) : ∃ A, accV ((List.range 3).map (digC v)) 5 = A ∧ A < 4294967296 ∧ b8 (A / 16777216) = b0 ∧ b8 (A / 65536) = b1 := by
  have B0 := b0.toNat_lt
  have B1 := b1.toNat_lt
  have h0 : 0 ≤ v := by omega
  have h1 : v < 4294967296 := by omega
  obtain ⟨a1, a2, a3, a4, ⟨x0, x1⟩, ⟨y0, y1⟩, ⟨z0, z1⟩, ⟨t0, t1⟩, ⟨s0, s1⟩, e4, e3, e2, e1, e0⟩ := digs_of h0 h1
  have hacc : accV ((List.range 3).map (digC v)) 5 = ((((digV v 0 - 33) * 85 + (digV v 1 - 33)) * 85 + (digV v 2 - 33)) * 85 + 84) * 85 + 84 := by
    simp only [accV]
    rw [dAt_group h0 (show 0 < 3 by omega), dAt_group h0 (show 1 < 3 by omega), dAt_group h0 (show 2 < 3 by omega), dAt_past (show 3 ≤ 3 by omega), dAt_past (show 3 ≤ 4 by omega)]
    omega
  generalize accV ((List.range 3).map (digC v)) 5 = A at *
  have hr : v ≤ A ∧ A ≤ v + 7224 := by omega
  clear e4 e3 e2 e1 e0 hacc x0 x1 y0 y1 z0 z1 t0 t1 s0 s1
  exact ⟨A, rfl, by omega, u8_eq (by omega), u8_eq (by omega)⟩
theorem grp3 (b0 b1 b2 : UInt8) (v : Int) (hv : v = (((b0.toNat : Int) * 256 + b1.toNat) * 256 + b2.toNat) * 256) : ∃ A, accV ((List.range 4).map (digC v)) 5 = A ∧ A < 4294967296 ∧ b8 (A / 16777216) = b0 ∧ b8 (A / 65536) = b1 ∧ b8 (A / 256) = b2 := by
  have B0 := b0.toNat_lt
  have B1 := b1.toNat_lt
  have B2 := b2.toNat_lt
  have h0 : 0 ≤ v := by omega
  have h1 : v < 4294967296 := by omega
  obtain ⟨a1, a2, a3, a4, ⟨x0, x1⟩, ⟨y0, y1⟩, ⟨z0, z1⟩, ⟨t0, t1⟩, ⟨s0, s1⟩, e4, e3, e2, e1, e0⟩ := digs_of h0 h1
  have hacc : accV ((List.range 4).map (digC v)) 5 = ((((digV v 0 - 33) * 85 + (digV v 1 - 33)) * 85 + (digV v 2 - 33)) * 85 + (digV v 3 - 33)) * 85 + 84 := by
    simp only [accV]
    rw [dAt_group h0 (show 0 < 4 by omega), dAt_group h0 (show 1 < 4 by omega), dAt_group h0 (show 2 < 4 by omega), dAt_group h0 (show 3 < 4 by omega), dAt_past (show 4 ≤ 4 by omega)]
    omega
  generalize accV ((List.range 4).map (digC v)) 5 = A at *
  have hr : v ≤ A ∧ A ≤ v + 84 := by omega
  clear e4 e3 e2 e1 e0 hacc x0 x1 y0 y1 z0 z1 t0 t1 s0 s1
  exact ⟨A, rfl, by omega, u8_eq (by omega), u8_eq (by omega), u8_eq (by omega)⟩
theorem grp4 (b0 b1 b2 b3 : UInt8) (v : Int) (hv : v = (((b0.toNat : Int) * 256 + b1.toNat) * 256 + b2.toNat) * 256 + b3.toNat) : ∃ A, accV ((List.range 5).map (digC v)) 5 = A ∧ A < 4294967296 ∧ b8 (A / 16777216) = b0 ∧ b8 (A / 65536) = b1 ∧ b8 (A / 256) = b2 ∧ b8 A = b3 := by
  have B0 := b0.toNat_lt
  have B1 := b1.toNat_lt
  have B2 := b2.toNat_lt
  have B3 := b3.toNat_lt
  have h0 : 0 ≤ v := by omega
  have h1 : v < 4294967296 := by omega
  obtain ⟨a1, a2, a3, a4, ⟨x0, x1⟩, ⟨y0, y1⟩, ⟨z0, z1⟩, ⟨t0, t1⟩, ⟨s0, s1⟩, e4, e3, e2, e1, e0⟩ := digs_of h0 h1
  have hacc : accV ((List.range 5).map (digC v)) 5 = ((((digV v 0 - 33) * 85 + (digV v 1 - 33)) * 85 + (digV v 2 - 33)) * 85 + (digV v 3 - 33)) * 85 + (digV v 4 - 33) := by
    simp only [accV]
    rw [dAt_group h0 (show 0 < 5 by omega), dAt_group h0 (show 1 < 5 by omega), dAt_group h0 (show 2 < 5 by omega), dAt_group h0 (show 3 < 5 by omega), dAt_group h0 (show 4 < 5 by omega)]
    omega
  generalize accV ((List.range 5).map (digC v)) 5 = A at *
  have hr : v ≤ A ∧ A ≤ v + 0 := by omega
  clear e4 e3 e2 e1 e0 hacc x0 x1 y0 y1 z0 z1 t0 t1 s0 s1
  exact ⟨A, rfl, by omega, u8_eq (by omega), u8_eq (by omega), u8_eq (by omega), u8_eq (by omega)⟩
theorem ung_core {l : List UInt8} {n : Nat} {A : Int} (hn : l.length = n) (h1 : 1 ≤ n) (hz : ¬ (numTo l 4 = 0 ∧ l.length = 4)) (hA : accV ((List.range (n + 1)).map (digC (numTo l 4))) 5 = A) (hA2 : A < 4294967296) (ht : (by4 A).take n = l) : ungV (groupV l) = some l := by
  have hv := (numTo_bd l 4 (by omega)).1
  have hg : groupV l = (List.range (n + 1)).map (digC (numTo l 4)) := by unfold groupV; rw [if_neg hz, hn]
  have hlen : (groupV l).length = n + 1 := by rw [hg]; simp
  have hne : (groupV l).length ≠ 1 := by omega
  have hin2 : (groupV l).all inDig = true := by rw [hg]; exact digC_in hv _
  have hac : accV (groupV l) 5 = A := by rw [hg]; exact hA
  have hlen2 : (groupV l).length - 1 = n := by omega
  unfold ungV
  rw [hac, hlen2, ht]
  exact if_pos ⟨hin2, hne, hA2, rfl⟩
/-- What one to four bytes are behind their code. -/
theorem ung_group {l : List UInt8} (h1 : 1 ≤ l.length) (h4 : l.length ≤ 4) (hz : ¬ (numTo l 4 = 0 ∧ l.length = 4)) : ungV (groupV l) = some l := by
  rcases l with _ | ⟨b0, _ | ⟨b1, _ | ⟨b2, _ | ⟨b3, _ | ⟨b4, r⟩⟩⟩⟩⟩
  · simp at h1
  · obtain ⟨A, hA, hA2, k0⟩ := grp1 b0 (numTo [b0] 4) (by simp only [numTo, byteAt, List.getD_cons_zero, List.getD_cons_succ, List.getD_nil, UInt8.toNat_zero]; omega)
    exact ung_core (n := 1) rfl (by omega) hz hA hA2 (by show [b8 (A / 16777216)] = [b0]; rw [k0])
  · obtain ⟨A, hA, hA2, k0, k1⟩ := grp2 b0 b1 (numTo [b0, b1] 4) (by simp only [numTo, byteAt, List.getD_cons_zero, List.getD_cons_succ, List.getD_nil, UInt8.toNat_zero]; omega)
    exact ung_core (n := 2) rfl (by omega) hz hA hA2 (by show [b8 (A / 16777216), b8 (A / 65536)] = [b0, b1]; rw [k0, k1])
  · obtain ⟨A, hA, hA2, k0, k1, k2⟩ := grp3 b0 b1 b2 (numTo [b0, b1, b2] 4) (by simp only [numTo, byteAt, List.getD_cons_zero, List.getD_cons_succ, List.getD_nil, UInt8.toNat_zero]; omega)
    exact ung_core (n := 3) rfl (by omega) hz hA hA2 (by show [b8 (A / 16777216), b8 (A / 65536), b8 (A / 256)] = [b0, b1, b2]; rw [k0, k1, k2])
  · obtain ⟨A, hA, hA2, k0, k1, k2, k3⟩ := grp4 b0 b1 b2 b3 (numTo [b0, b1, b2, b3] 4) (by simp only [numTo, byteAt, List.getD_cons_zero, List.getD_cons_succ]; omega)
    exact ung_core (n := 4) rfl (by omega) hz hA hA2 (by show [b8 (A / 16777216), b8 (A / 65536), b8 (A / 256), b8 A] = [b0, b1, b2, b3]; rw [k0, k1, k2, k3])
  · simp at h4
set_option maxRecDepth 10000 in
theorem zero_group {l : List UInt8} (h : numTo l 4 = 0 ∧ l.length = 4) : l = [0, 0, 0, 0] := by
  obtain ⟨h0, h4⟩ := h
  match l, h4 with
  | [b0, b1, b2, b3], _ =>
    have e : (((b0.toNat : Int) * 256 + b1.toNat) * 256 + b2.toNat) * 256 + b3.toNat = 0 := by rw [← h0]; simp only [numTo, byteAt, List.getD_cons_zero, List.getD_cons_succ]; omega
    have e0 : b0 = 0 := UInt8.toNat_inj.1 (by rw [UInt8.toNat_zero]; omega)
    have e1 : b1 = 0 := UInt8.toNat_inj.1 (by rw [UInt8.toNat_zero]; omega)
    have e2 : b2 = 0 := UInt8.toNat_inj.1 (by rw [UInt8.toNat_zero]; omega)
    have e3 : b3 = 0 := UInt8.toNat_inj.1 (by rw [UInt8.toNat_zero]; omega)
    rw [e0, e1, e2, e3]
theorem unText_enc (l : List UInt8) : unText (encText l) = some l := by
  obtain ⟨n, hn⟩ : ∃ n, n = l.length := ⟨_, rfl⟩
  induction n using Nat.strongRecOn generalizing l with
  | _ n ih =>
    by_cases hnil : l = []
    · rw [hnil]; rfl
    · have hpos : 0 < l.length := List.length_pos_iff.2 hnil
      rw [encText_step hnil]
      have ihd := ih (l.drop 4).length (by rw [List.length_drop]; omega) (l.drop 4) rfl
      have ht : (l.take 4).length = min 4 l.length := List.length_take
      by_cases hz : numTo (l.take 4) 4 = 0 ∧ (l.take 4).length = 4
      · have e : groupV (l.take 4) = [122] := by unfold groupV; rw [if_pos hz]
        have e2 : l = [0, 0, 0, 0] ++ l.drop 4 := by rw [← zero_group hz, List.take_append_drop]
        rw [e]
        show unText (122 :: encText (l.drop 4)) = _
        rw [unText_z, ihd]
        exact congrArg some e2.symm
      · have hg := ung_group (l := l.take 4) (by rw [ht]; omega) (by rw [ht]; omega) hz
        have e : groupV (l.take 4) = (List.range ((l.take 4).length + 1)).map (digC (numTo (l.take 4) 4)) := by unfold groupV; rw [if_neg hz]
        have hgl : (groupV (l.take 4)).length = (l.take 4).length + 1 := by rw [e]; simp
        have h0 := (numTo_bd (l.take 4) 4 (by omega)).1
        have hsplit : (groupV (l.take 4) ++ encText (l.drop 4)).take 5 = groupV (l.take 4) ∧ (groupV (l.take 4) ++ encText (l.drop 4)).drop 5 = encText (l.drop 4) := by
          by_cases h4 : 4 ≤ l.length
          · have e5 : 5 = (groupV (l.take 4)).length := by rw [hgl, ht]; omega
            rw [e5]
            exact ⟨List.take_left' rfl, List.drop_left' rfl⟩
          · have e0 : l.drop 4 = [] := List.drop_eq_nil_of_le (by omega)
            rw [e0]
            show (groupV (l.take 4) ++ []).take 5 = _ ∧ (groupV (l.take 4) ++ []).drop 5 = []
            rw [List.append_nil]
            exact ⟨List.take_of_length_le (by rw [hgl, ht]; omega), List.drop_eq_nil_of_le (by rw [hgl, ht]; omega)⟩
        rw [unText_g, hsplit.1, hsplit.2, hg, ihd]
        · simp
        · intro h
          have := congrArg List.length h
          simp only [List.length_append, List.length_nil, hgl] at this
          omega
        · rw [List.getD_eq_getElem?_getD, List.getElem?_append_left (by rw [hgl]; omega), ← List.getD_eq_getElem?_getD, e, List.getD_eq_getElem?_getD, List.getElem?_eq_getElem (by simp), Option.getD_some, List.getElem_map, List.getElem_range]
          intro h
          have h1 := digC_toNat h0 0
          have h2 := (digV_bd h0 0).2
          rw [h] at h1
          have : (122 : UInt8).toNat = 122 := rfl
          omega
theorem decV_coded {l : List UInt8} (h : l.length ≤ 256) : decV (codedV l) = (l, true) := by
  have h1 := encText_len l
  unfold decV codedV
  simp only
  rw [if_pos trivial]
  unfold decText
  rw [unText_enc]
  simp only
  rw [if_pos ⟨by omega, by omega⟩]
  simp only
  rw [decide_eq_true h]
theorem cutNl_hit (a r : List UInt8) (h : 10 ∉ a) : cutNl (a ++ 10 :: r) = some (a, r) := by
  induction a with
  | nil => simp [cutNl]
  | cons c a ih =>
    have hc : ¬ c = 10 := fun e => h (by simp [e])
    have ha : 10 ∉ a := fun e => h (by simp [e])
    rw [List.cons_append, cutNl, if_neg hc, ih ha]
    rfl
theorem cutNl_no (a : List UInt8) (h : 10 ∉ a) : cutNl a = none := by
  induction a with
  | nil => rfl
  | cons c a ih =>
    have hc : ¬ c = 10 := fun e => h (by simp [e])
    have ha : 10 ∉ a := fun e => h (by simp [e])
    rw [cutNl, if_neg hc, ih ha]
    rfl
/-- A record without its line feed. -/
def textL (ep sq : Int) (ws : List (List UInt8)) : List UInt8 := bodyV ws ++ [32] ++ hexV (sumV (Lib.itoa ep ++ [32] ++ Lib.itoa sq ++ [32] ++ bodyV ws))
theorem lineV_text (ep sq : Int) (ws : List (List UInt8)) : lineV ep sq ws = textL ep sq ws ++ [10] := rfl
theorem join_snoc (ws : List (List UInt8)) (x : List UInt8) (h : ws ≠ []) : Lib.join (ws ++ [x]) [32] = Lib.join ws [32] ++ [32] ++ x := by
  induction ws with
  | nil => exact absurd rfl h
  | cons w r ih =>
    rw [List.cons_append, Lib.join_cons, Lib.join_cons]
    simp [Lib.joinTail]
def sumW (ep sq : Int) (ws : List (List UInt8)) : List UInt8 := hexV (sumV (Lib.itoa ep ++ [32] ++ Lib.itoa sq ++ [32] ++ bodyV ws))
theorem textL_words (ep sq : Int) {ws : List (List UInt8)} (hn : ws ≠ []) (hd : ∀ w ∈ ws, Dense w) : wordsV (textL ep sq ws) = ws ++ [sumW ep sq ws] := by
  have e : textL ep sq ws = Lib.join (ws ++ [sumW ep sq ws]) [32] := by rw [join_snoc _ _ hn]; rfl
  rw [e, wordsV_join _ (by simp)]
  intro w hw
  rcases List.mem_append.1 hw with h | h
  · exact (hd w h).no32
  · rw [List.mem_singleton.1 h]; exact (hexV_dense _).no32
theorem join_no10 (ws : List (List UInt8)) (h : ∀ w ∈ ws, 10 ∉ w) : 10 ∉ Lib.join ws [32] := by
  cases ws with
  | nil => simp [Lib.join, List.intercalate]
  | cons w r =>
    rw [Lib.join_cons]
    intro hm
    rcases List.mem_append.1 hm with e | e
    · exact h w (by simp) e
    · unfold Lib.joinTail at e
      obtain ⟨y, hy, e2⟩ := List.mem_flatMap.1 e
      rcases List.mem_append.1 e2 with e3 | e3
      · revert e3; decide
      · exact h y (by simp [hy]) e3
theorem textL_no10 (ep sq : Int) {ws : List (List UInt8)} (hd : ∀ w ∈ ws, Dense w) : 10 ∉ textL ep sq ws := by
  unfold textL
  intro hm
  rcases List.mem_append.1 hm with e | e
  · rcases List.mem_append.1 e with e | e
    · exact join_no10 ws (fun w hw => (hd w hw).no10) e
    · revert e; decide
  · exact (hexV_dense _).no10 e
/-- A record that was written is read. -/
theorem recV_line {s : Sc} {ws : List (List UInt8)} {r : List UInt8} {ep : Int} (hn : ws ≠ []) (hd : ∀ w ∈ ws, Dense w) (hr : s.rest = lineV ep s.seq ws ++ r) (he : (if s.seq = 0 then (numV ((ws ++ [sumW ep s.seq ws]).getD 1 [])).1 else s.epoch) = ep) :
    recV s = (some ws, ⟨r, ep, s.seq + 1, s.read + ((lineV ep s.seq ws).length : Nat)⟩) := by
  have hw := textL_words ep s.seq hn hd
  have hc : cutNl s.rest = some (textL ep s.seq ws, r) := by
    rw [hr, lineV_text, List.append_assoc]
    exact cutNl_hit _ _ (textL_no10 ep s.seq hd)
  have hl : 1 < (ws ++ [sumW ep s.seq ws]).length := by
    have : 0 < ws.length := List.length_pos_iff.2 hn
    simp; omega
  have hep : epochV s (wordsV (textL ep s.seq ws)) = ep := by
    unfold epochV
    rw [hw]
    by_cases h0 : s.seq = 0
    · rw [if_pos ⟨h0, hl⟩]; rw [if_pos h0] at he; exact he
    · rw [if_neg (fun h => h0 h.1)]; rw [if_neg h0] at he; exact he
  unfold recV
  rw [hc]
  simp only
  rw [hep, hw, List.dropLast_concat, if_pos (lineV_text ep s.seq ws)]
  rw [lineV_text, List.length_append]
  simp only [List.length_singleton, Prod.mk.injEq, true_and]
  congr 1
  omega
/-- A part of a record is not read. -/
theorem recV_part {s : Sc} {ws : List (List UInt8)} {ep : Int} {m : Nat} (hd : ∀ w ∈ ws, Dense w) (hr : s.rest = (lineV ep s.seq ws).take m) (hm : m < (lineV ep s.seq ws).length) : recV s = (none, s) := by
  have hc : cutNl s.rest = none := by
    apply cutNl_no
    rw [hr, lineV_text, List.take_append_of_le_length (by rw [lineV_text, List.length_append] at hm; simp at hm; omega)]
    exact fun h => textL_no10 ep s.seq hd (List.mem_of_mem_take h)
  unfold recV
  rw [hc]
theorem recV_nil {s : Sc} (hr : s.rest = []) : recV s = (none, s) := by
  unfold recV
  rw [hr]
  rfl
end Go.Proofs.YtnnnihjagjfkdaaGreatDoor
namespace Go.Proofs.YtnnnihjagjfkdaaGreatDoor
open Go.RowKit
set_option linter.unusedVariables false
/-- Records with these words, the first one with the number k. -/
def linesV (ep : Int) : Nat → List (List (List UInt8)) → List UInt8
  | _, [] => []
  | k, ws :: r => lineV ep k ws ++ linesV ep (k + 1) r
def Words (wss : List (List (List UInt8))) : Prop := ∀ ws ∈ wss, ws ≠ [] ∧ ∀ w ∈ ws, Dense w
theorem linesV_app (ep : Int) : ∀ (k : Nat) (a b : List (List (List UInt8))), linesV ep k (a ++ b) = linesV ep k a ++ linesV ep (k + a.length) b
  | k, [], b => rfl
  | k, x :: a, b => by
    show lineV ep k x ++ linesV ep (k + 1) (a ++ b) = lineV ep k x ++ linesV ep (k + 1) a ++ _
    rw [linesV_app ep (k + 1) a b, List.append_assoc, List.length_cons]
    congr 3
    omega
theorem linesV_one (ep : Int) (k : Nat) (ws : List (List UInt8)) : linesV ep k [ws] = lineV ep k ws := by
  show lineV ep k ws ++ [] = _
  rw [List.append_nil]
/-- The records, one behind the other. -/
def foldV : Que → List (List (List UInt8)) → Option Que
  | q, [] => some q
  | q, ws :: r => match applyV q ws with
    | none => none
    | some q' => foldV q' r
theorem foldV_cons {q q' : Que} {ws : List (List UInt8)} {r : List (List (List UInt8))} (h : applyV q ws = some q') : foldV q (ws :: r) = foldV q' r := by
  conv => lhs; unfold foldV
  rw [h]
theorem foldV_app {q q' : Que} {a b : List (List (List UInt8))} (h : foldV q a = some q') : foldV q (a ++ b) = foldV q' b := by
  induction a generalizing q with
  | nil =>
    simp only [foldV, Option.some.injEq] at h
    rw [h]; rfl
  | cons ws a ih =>
    unfold foldV at h
    cases e : applyV q ws with
    | none => rw [e] at h; cases h
    | some q1 =>
      rw [e] at h
      rw [List.cons_append, foldV_cons e]
      exact ih h
theorem foldV_snoc {q q1 q2 : Que} {a : List (List (List UInt8))} {ws : List (List UInt8)} (h : foldV q a = some q1) (ha : applyV q1 ws = some q2) : foldV q (a ++ [ws]) = some q2 := by
  rw [foldV_app h, foldV_cons ha]
  rfl
theorem foldV_take {q qe : Que} {a : List (List (List UInt8))} (h : foldV q a = some qe) (j : Nat) : ∃ q', foldV q (a.take j) = some q' := by
  induction a generalizing q j with
  | nil => exact ⟨q, by simp [foldV]⟩
  | cons ws a ih =>
    cases j with
    | zero => exact ⟨q, rfl⟩
    | succ j =>
      unfold foldV at h
      cases e : applyV q ws with
      | none => rw [e] at h; cases h
      | some q1 =>
        rw [e] at h
        obtain ⟨q', hq⟩ := ih h j
        exact ⟨q', by rw [List.take_succ_cons, foldV_cons e]; exact hq⟩
/-- What is read of records that are cut off somewhere. -/
theorem run_part (ep : Int) : ∀ (wss : List (List (List UInt8))) (k : Nat) (q qe : Que) (s : Sc) (m n : Nat), Words wss → s.seq = k → s.epoch = ep → 1 ≤ k → s.rest = (linesV ep k wss).take m → foldV q wss = some qe → s.rest.length < n →
    ∃ j, j ≤ wss.length ∧ foldV q (wss.take j) = some (runV n q s).1 ∧ (runV n q s).2.seq = k + j ∧ (∀ c, c ≤ wss.length → (linesV ep k (wss.take c)).length ≤ m → c ≤ j)
  | [], k, q, qe, s, m, n, hW, hk, he, h1, hr, hf, hn => by
    obtain ⟨n, rfl⟩ : ∃ n', n = n' + 1 := ⟨n - 1, by omega⟩
    rw [run_none (recV_nil (by rw [hr]; simp [linesV]))]
    exact ⟨0, Nat.le_refl _, rfl, by rw [hk]; rfl, fun c hc _ => hc⟩
  | ws :: r, k, q, qe, s, m, n, hW, hk, he, h1, hr, hf, hn => by
    obtain ⟨n, rfl⟩ : ∃ n', n = n' + 1 := ⟨n - 1, by omega⟩
    have hw := hW ws (by simp)
    have hle : (lineV ep k ws ++ linesV ep (k + 1) r) = linesV ep k (ws :: r) := rfl
    by_cases hm : (lineV ep k ws).length ≤ m
    · have hr2 : s.rest = lineV ep s.seq ws ++ (linesV ep (k + 1) r).take (m - (lineV ep k ws).length) := by
        rw [hr, ← hle, hk]
        have e : m = (lineV ep k ws).length + (m - (lineV ep k ws).length) := by omega
        conv => lhs; rw [e]
        rw [List.take_length_add_append]
      have hrec := recV_line (s := s) hw.1 hw.2 hr2 (by rw [if_neg (by omega)]; exact he)
      unfold foldV at hf
      cases e : applyV q ws with
      | none => rw [e] at hf; cases hf
      | some q1 =>
        rw [e] at hf
        rw [run_yes hrec e]
        have hlt := congrArg List.length hr2
        rw [List.length_append] at hlt
        have hl1 : 10 ≤ (lineV ep s.seq ws).length := by rw [lineV_len]; omega
        obtain ⟨j, hj, hq, hs, hc⟩ := run_part ep r (k + 1) q1 qe ⟨(linesV ep (k + 1) r).take (m - (lineV ep k ws).length), ep, s.seq + 1, s.read + ((lineV ep s.seq ws).length : Nat)⟩ (m - (lineV ep k ws).length) n (fun x hx => hW x (by simp [hx])) (by show s.seq + 1 = _; rw [hk]; omega) rfl (by omega) rfl hf (by show ((linesV ep (k + 1) r).take (m - (lineV ep k ws).length)).length < n; omega)
        refine ⟨j + 1, by simpa using hj, by rw [List.take_succ_cons, foldV_cons e]; exact hq, by rw [hs]; omega, fun c hcl hcm => ?_⟩
        cases c with
        | zero => omega
        | succ c =>
          rw [List.take_succ_cons] at hcm
          have e5 : (linesV ep k (ws :: r.take c)).length = (lineV ep k ws).length + (linesV ep (k + 1) (r.take c)).length := by
            show (lineV ep k ws ++ linesV ep (k + 1) (r.take c)).length = _
            rw [List.length_append]
          have := hc c (by simpa using hcl) (by omega)
          omega
    · have hr2 : s.rest = (lineV ep s.seq ws).take m := by
        rw [hr, ← hle, hk, List.take_append_of_le_length (by omega)]
      rw [run_none (recV_part hw.2 hr2 (by rw [hk]; omega))]
      refine ⟨0, by omega, rfl, by rw [hk]; rfl, fun c hcl hcm => ?_⟩
      cases c with
      | zero => omega
      | succ c =>
        rw [List.take_succ_cons] at hcm
        have e5 : (linesV ep k (ws :: r.take c)).length = (lineV ep k ws).length + (linesV ep (k + 1) (r.take c)).length := by
          show (lineV ep k ws ++ linesV ep (k + 1) (r.take c)).length = _
          rw [List.length_append]
        omega
theorem lit_dense {l : List UInt8} (h : l.all (fun c => decide (33 ≤ c.toNat)) = true) : Dense l := fun c hc => of_decide_eq_true (List.all_eq_true.1 h c hc)
theorem putL_good (n : Int) (s : ByteArray) : putL n s ≠ [] ∧ ∀ w ∈ putL n s, Dense w := by
  refine ⟨by simp [putL, putWs], fun w hw => ?_⟩
  have e : putL n s = [[112, 117, 116], Lib.itoa n, codedV s.data.toList] := rfl
  rw [e] at hw
  simp only [List.mem_cons, List.not_mem_nil, or_false] at hw
  rcases hw with rfl | rfl | rfl
  · exact lit_dense (by decide)
  · exact itoa_dense _
  · exact codedV_dense _
theorem doneL_good (n : Int) : doneL n ≠ [] ∧ ∀ w ∈ doneL n, Dense w := by
  refine ⟨by simp [doneL, doneWs], fun w hw => ?_⟩
  have e : doneL n = [[100, 111, 110, 101], Lib.itoa n] := rfl
  rw [e] at hw
  simp only [List.mem_cons, List.not_mem_nil, or_false] at hw
  rcases hw with rfl | rfl
  · exact lit_dense (by decide)
  · exact itoa_dense _
theorem beginLn_good (ep nx n : Int) : beginLn ep nx n ≠ [] ∧ ∀ w ∈ beginLn ep nx n, Dense w := by
  refine ⟨by simp [beginLn, beginW], fun w hw => ?_⟩
  have e : beginLn ep nx n = [[98, 101, 103, 105, 110], Lib.itoa ep, Lib.itoa nx, Lib.itoa n] := rfl
  rw [e] at hw
  simp only [List.mem_cons, List.not_mem_nil, or_false] at hw
  rcases hw with rfl | rfl | rfl | rfl
  · exact lit_dense (by decide)
  · exact itoa_dense _
  · exact itoa_dense _
  · exact itoa_dense _
theorem keepLn_good (n : Int) (s : ByteArray) : keepLn n s ≠ [] ∧ ∀ w ∈ keepLn n s, Dense w := by
  refine ⟨by simp [keepLn, keepW], fun w hw => ?_⟩
  have e : keepLn n s = [[107, 101, 101, 112], Lib.itoa n, codedV s.data.toList] := rfl
  rw [e] at hw
  simp only [List.mem_cons, List.not_mem_nil, or_false] at hw
  rcases hw with rfl | rfl | rfl
  · exact lit_dense (by decide)
  · exact itoa_dense _
  · exact codedV_dense _
/-- The numbers of the jobs grow and lie below the next one. -/
structure Ids (xs : List Jb) (next : Int) : Prop where
  low : ∀ i (h : i < xs.length), 1 ≤ xs[i].id ∧ xs[i].id < next
  up : ∀ i j (hi : i < j) (h : j < xs.length), (xs[i]'(by omega)).id < xs[j].id
theorem lastId_lt {xs : List Jb} {next : Int} (h : Ids xs next) (h1 : 1 ≤ next) : lastId xs < next := by
  rcases Nat.eq_zero_or_pos xs.length with e | e
  · rw [List.eq_nil_of_length_eq_zero e]; show (0 : Int) < next; omega
  · obtain ⟨m, hm⟩ : ∃ m, xs.length = m + 1 := ⟨xs.length - 1, by omega⟩
    rw [lastId_at hm]
    exact (h.low m (by omega)).2
theorem Ids.snoc {xs : List Jb} {next : Int} (h : Ids xs next) (h1 : 1 ≤ next) (t : ByteArray) : Ids (xs ++ [⟨next, t, 0, 0⟩]) (next + 1) := by
  refine ⟨fun i hi => ?_, fun i j hij hj => ?_⟩
  · rw [List.length_append, List.length_singleton] at hi
    by_cases e : i < xs.length
    · have := h.low i e
      rw [List.getElem_append_left e]
      omega
    · have e2 : i = xs.length := by omega
      subst e2
      rw [List.getElem_append_right (by omega)]
      simp
      omega
  · rw [List.length_append, List.length_singleton] at hj
    by_cases e : j < xs.length
    · have := h.up i j hij e
      rw [List.getElem_append_left e, List.getElem_append_left (by omega)]
      exact this
    · have e2 : j = xs.length := by omega
      subst e2
      have := (h.low i (by omega)).2
      rw [List.getElem_append_left (by omega), List.getElem_append_right (Nat.le_refl _)]
      simpa using this
theorem Ids.tail {x : Jb} {xs : List Jb} {next : Int} (h : Ids (x :: xs) next) : Ids xs next := by
  refine ⟨fun i hi => ?_, fun i j hij hj => ?_⟩
  · have := h.low (i + 1) (by simp; omega)
    simpa using this
  · have := h.up (i + 1) (j + 1) (by omega) (by simp; omega)
    simpa using this
theorem apply_put {q : Que} {s : ByteArray} (hI : Ids q.jobs q.next) (h1 : 1 ≤ q.next) (h2 : q.next ≤ 1073741824) (hj : q.jobs.length < 64) (hs : s.size ≤ 256) : applyV q (putL q.next s) = some { q with jobs := q.jobs ++ [⟨q.next, s, 0, 0⟩], next := q.next + 1 } := by
  have e : putL q.next s = [[112, 117, 116], Lib.itoa q.next, codedV s.data.toList] := rfl
  rw [e]
  unfold applyV
  rw [if_pos ⟨rfl, rfl⟩]
  show keepV q (Lib.itoa q.next) (codedV s.data.toList) true = _
  unfold keepV
  rw [numV_itoa (by omega) (by omega), decV_coded (by simpa using hs)]
  rw [if_pos ⟨rfl, rfl, lastId_lt hI h1, h2, by rw [if_pos rfl], by omega⟩]
  show some (keepQ q q.next s.data.toList true) = _
  unfold keepQ
  rw [if_pos rfl]
theorem apply_done {q : Que} {x : Jb} {r : List Jb} (hq : q.jobs = x :: r) (h0 : 0 ≤ x.id) (h1 : x.id < 1000000000000000000) : applyV q (doneL x.id) = some { q with jobs := r } := by
  have e : doneL x.id = [[100, 111, 110, 101], Lib.itoa x.id] := rfl
  rw [e]
  unfold applyV
  rw [if_neg (fun h => by have := h.1; simp at this), if_pos ⟨rfl, rfl⟩]
  show dropV q (numV (Lib.itoa x.id)) = _
  rw [numV_itoa h0 h1]
  unfold dropV
  rw [if_pos rfl, hq]
  have : (x :: r).findIdx? (hasId x.id) = some 0 := by
    rw [List.findIdx?_cons]
    have : hasId x.id x = true := by simp [hasId]
    rw [if_pos this]
  rw [this]
  rfl
/-- The data of the writes, one behind the other. -/
def dataW (l : List Wr) : List UInt8 := l.flatMap fun x => x.data.data.toList
/-- A queue behind some steps: wss are the words of its records, the first c of them are certain. -/
structure Hist (q : Que) (wss : List (List (List UInt8))) (c : Nat) : Prop where
  ep : q.epoch = 1
  area : q.area = 0
  a1 : q.a1 = ⟨#[]⟩
  a0 : q.a0.data.toList = lineV 1 0 beginL ++ linesV 1 1 (wss.take c)
  wr : dataW q.writes = linesV 1 (c + 1) (wss.drop c)
  wa : ∀ x ∈ q.writes, x.area = 0
  wl : q.writes.length + c = wss.length
  seq : q.seq = (wss.length : Int) + 1
  size : q.size = 21 + ((linesV 1 1 wss).length : Int)
  fit : (linesV 1 1 wss).length ≤ 411 * wss.length
  good : Words wss
  fold : ∃ qe, foldV (emptyQ 1 1) wss = some qe ∧ qe.jobs = q.jobs ∧ qe.next = q.next
  ids : Ids q.jobs q.next
  zero : ∀ j ∈ q.jobs, j.lease = 0
  text : ∀ j ∈ q.jobs, j.text.size ≤ 256
  nx : 1 ≤ q.next ∧ q.next ≤ (wss.length : Int) + 1
  ls : 0 ≤ q.leases ∧ q.leases ≤ (wss.length : Int)
  nw : q.now = 0
  jl : q.jobs.length ≤ wss.length
theorem hist_new : Hist newQ [] 0 := by
  refine ⟨rfl, rfl, rfl, ?_, rfl, fun x hx => by simp [newQ] at hx, rfl, rfl, rfl, by simp [linesV], fun ws h => by simp at h, ⟨_, rfl, rfl, rfl⟩, ⟨fun i h => by simp [newQ] at h, fun i j hij h => by simp [newQ] at h⟩, fun j h => by simp [newQ] at h, fun j h => by simp [newQ] at h, ⟨by decide, by decide⟩, ⟨by decide, by decide⟩, rfl, by simp [newQ]⟩
  show (lineV 1 0 beginL) = lineV 1 0 beginL ++ linesV 1 1 ([].take 0)
  simp [linesV]
theorem Hist.ok {q : Que} {wss : List (List (List UInt8))} {c : Nat} (h : Hist q wss c) (hn : wss.length ≤ 62) : QOk q := by
  have := h.size
  have := h.fit
  have := h.seq
  have := h.ls
  have := h.nx
  have := h.wl
  have := h.jl
  have := h.nw
  exact ⟨.inl h.area, by rw [h.ep]; omega, by omega, by omega, by omega, by omega, by omega, by omega, by omega⟩
theorem dataW_snoc (l : List Wr) (x : Wr) : dataW (l ++ [x]) = dataW l ++ x.data.data.toList := by simp [dataW]
theorem Hist.step {q q' : Que} {wss : List (List (List UInt8))} {c : Nat} {ws : List (List UInt8)} (h : Hist q wss c) (hg : ws ≠ [] ∧ ∀ w ∈ ws, Dense w) (hl : (lineV 1 (wss.length + 1 : Nat) ws).length ≤ 411)
    (hap : ∀ qe : Que, qe.jobs = q.jobs → qe.next = q.next → ∃ q2, applyV qe ws = some q2 ∧ q2.jobs = q'.jobs ∧ q2.next = q'.next)
    (e1 : q'.epoch = q.epoch) (e2 : q'.area = q.area) (e3 : q'.a1 = q.a1) (e4 : q'.a0 = q.a0) (e5 : q'.writes = q.writes ++ [⟨q.area, strB (lineV q.epoch q.seq ws)⟩]) (e6 : q'.seq = q.seq + 1) (e7 : q'.size = q.size + (lineV q.epoch q.seq ws).length)
    (hi : Ids q'.jobs q'.next) (hz : ∀ j ∈ q'.jobs, j.lease = 0) (htx : ∀ j ∈ q'.jobs, j.text.size ≤ 256) (hnx : 1 ≤ q'.next ∧ q'.next ≤ q.next + 1) (hls : 0 ≤ q'.leases ∧ q'.leases ≤ q.leases + 1) (hnw : q'.now = q.now) (hjl : q'.jobs.length ≤ q.jobs.length + 1) : Hist q' (wss ++ [ws]) c := by
  have hc : c ≤ wss.length := by have := h.wl; omega
  have hsq : q.seq = ((wss.length + 1 : Nat) : Int) := by rw [h.seq]; omega
  have hline : lineV q.epoch q.seq ws = lineV 1 (wss.length + 1 : Nat) ws := by rw [h.ep, hsq]
  have hall : linesV 1 1 (wss ++ [ws]) = linesV 1 1 wss ++ lineV 1 (wss.length + 1 : Nat) ws := by
    rw [linesV_app, linesV_one, Nat.add_comm 1 wss.length]
  have hn : (wss ++ [ws]).length = wss.length + 1 := by simp
  have b1 := h.nx
  have b2 := h.ls
  have b3 := h.jl
  refine ⟨e1.trans h.ep, e2.trans h.area, e3.trans h.a1, ?_, ?_, ?_, ?_, ?_, ?_, ?_, ?_, ?_, hi, hz, htx, ⟨hnx.1, by rw [hn]; omega⟩, ⟨hls.1, by rw [hn]; omega⟩, hnw.trans h.nw, by rw [hn]; omega⟩
  · rw [e4, h.a0, List.take_append_of_le_length hc]
  · rw [e5, dataW_snoc, h.wr, List.drop_append_of_le_length hc, linesV_app, linesV_one, hline]
    have e : c + 1 + (wss.drop c).length = wss.length + 1 := by rw [List.length_drop]; omega
    rw [e]
    rfl
  · intro x hx
    rw [e5] at hx
    rcases List.mem_append.1 hx with hx | hx
    · exact h.wa x hx
    · rw [List.mem_singleton.1 hx]; exact h.area
  · rw [e5, hn, List.length_append, List.length_singleton]
    have := h.wl
    omega
  · rw [e6, h.seq, hn]; omega
  · rw [e7, h.size, hline, hall, List.length_append]; omega
  · rw [hall, List.length_append, hn]
    have := h.fit
    omega
  · intro x hx
    rcases List.mem_append.1 hx with hx | hx
    · exact h.good x hx
    · rw [List.mem_singleton.1 hx]; exact hg
  · obtain ⟨qe, hf, hj, hnx2⟩ := h.fold
    obtain ⟨q2, ha, k1, k2⟩ := hap qe hj hnx2
    exact ⟨q2, foldV_snoc hf ha, k1, k2⟩
theorem Hist.put {q : Que} {wss : List (List (List UInt8))} {c : Nat} {s : ByteArray} (h : Hist q wss c) (hn : wss.length ≤ 62) (hs : s.size ≤ 256) : Hist (putQ q s) (wss ++ [putL q.next s]) c := by
  have b1 := h.nx
  have b3 := h.jl
  have hlen := putL_len q.next s (by omega) (by omega) hs
  refine h.step (putL_good _ _) (by rw [lineV_len]; omega) ?_ rfl rfl rfl rfl rfl rfl rfl (h.ids.snoc b1.1 s) ?_ ?_ ⟨by show 1 ≤ q.next + 1; omega, Int.le_refl _⟩ ⟨h.ls.1, by show q.leases ≤ q.leases + 1; omega⟩ rfl ?_
  · intro qe hj hx
    have ha := apply_put (q := qe) (s := s) (by rw [hj, hx]; exact h.ids) (by rw [hx]; omega) (by rw [hx]; omega) (by rw [hj]; omega) hs
    rw [hx] at ha
    exact ⟨_, ha, by show qe.jobs ++ _ = q.jobs ++ _; rw [hj], rfl⟩
  · intro j hj
    rcases List.mem_append.1 hj with hj | hj
    · exact h.zero j hj
    · rw [List.mem_singleton.1 hj]
  · intro j hj
    rcases List.mem_append.1 hj with hj | hj
    · exact h.text j hj
    · rw [List.mem_singleton.1 hj]; exact hs
  · show (q.jobs ++ [_]).length ≤ _
    simp
/-- The first job was taken and is finished. -/
theorem Hist.done {q q1 : Que} {wss : List (List (List UInt8))} {c : Nat} {x y : Jb} {r : List Jb} (h : Hist q wss c) (hn : wss.length ≤ 62) (hq : q.jobs = x :: r) (hy : y.id = x.id) (e : q1 = { q with jobs := y :: r, leases := q.leases + 1 }) : Hist (doneQ q1 x.id 0) (wss ++ [doneL x.id]) c := by
  have b1 := h.nx
  have b2 := h.ls
  have b3 := h.jl
  have hx := h.ids.low 0 (by rw [hq]; simp)
  have hx' : 1 ≤ x.id ∧ x.id < q.next := by
    have e0 : (q.jobs[0]'(by rw [hq]; simp)) = x := by simp [hq]
    rw [e0] at hx; exact hx
  have hlen := doneL_len x.id (by omega) (by omega)
  have hj1 : (doneQ q1 x.id 0).jobs = r := by subst e; rfl
  have hids : Ids (x :: r) q.next := by rw [← hq]; exact h.ids
  refine h.step (doneL_good _) (by rw [lineV_len]; omega) ?_ (by subst e; rfl) (by subst e; rfl) (by subst e; rfl) (by subst e; rfl) (by subst e; rfl) (by subst e; rfl) (by subst e; rfl) ?_ ?_ ?_ (by subst e; exact ⟨b1.1, by show q.next ≤ q.next + 1; omega⟩) (by subst e; exact ⟨by show 0 ≤ q.leases + 1; omega, Int.le_refl _⟩) (by subst e; rfl) ?_
  · intro qe hj hx2
    have ha := apply_done (q := qe) (x := x) (r := r) (by rw [hj, hq]) (by omega) (by omega)
    exact ⟨_, ha, hj1.symm, by subst e; exact hx2⟩
  · rw [hj1]
    have : (doneQ q1 x.id 0).next = q.next := by subst e; rfl
    rw [this]
    exact hids.tail
  · rw [hj1]; exact fun j hj => h.zero j (by rw [hq]; simp [hj])
  · rw [hj1]; exact fun j hj => h.text j (by rw [hq]; simp [hj])
  · rw [hj1, hq]; simp; omega
theorem synV_zero (s : List UInt8 × List UInt8) (l : List Wr) (h : ∀ x ∈ l, x.area = 0) : synV s l = (s.1 ++ dataW l, s.2) := by
  induction l generalizing s with
  | nil => simp [synV, dataW]
  | cons x l ih =>
    show synV (synStep s x) l = _
    rw [ih _ (fun y hy => h y (by simp [hy]))]
    unfold synStep
    rw [if_pos (h x (by simp))]
    simp [dataW]
theorem Hist.sync {q : Que} {wss : List (List (List UInt8))} {c : Nat} (h : Hist q wss c) : Hist (syncQ q) wss wss.length := by
  have hc : c ≤ wss.length := by have := h.wl; omega
  have e : syncP q = (q.a0.data.toList ++ dataW q.writes, q.a1.data.toList) := synV_zero _ _ h.wa
  refine ⟨h.ep, h.area, ?_, ?_, ?_, fun x hx => by simp [syncQ] at hx, ?_, h.seq, h.size, h.fit, h.good, h.fold, h.ids, h.zero, h.text, h.nx, h.ls, h.nw, h.jl⟩
  · show strB (syncP q).2 = _
    rw [e, h.a1]; rfl
  · show (strB (syncP q).1).data.toList = _
    rw [e, List.take_length]
    show q.a0.data.toList ++ dataW q.writes = _
    rw [h.a0, h.wr, List.append_assoc]
    conv => rhs; rw [← List.take_append_drop c wss]
    rw [linesV_app, List.length_take, Nat.min_eq_left hc, Nat.add_comm 1 c]
  · rw [List.drop_length]; rfl
  · simp [syncQ]
/-- What arrives of writes of the first area. -/
theorem arv_zero (l : List Wr) (h : ∀ x ∈ l, x.area = 0) : ∀ s : Arv, (arvV s l).a = s.a ++ (dataW l).take s.left ∧ (arvV s l).b = s.b := by
  induction l with
  | nil => intro s; simp [arvV, dataW]
  | cons x l ih =>
    intro s
    have hx := h x (by simp)
    have h2 := ih (fun y hy => h y (by simp [hy])) (arvStep s x)
    show (arvV (arvStep s x) l).a = _ ∧ (arvV (arvStep s x) l).b = _
    rw [h2.1, h2.2]
    unfold arvStep
    simp only [if_pos hx]
    refine ⟨?_, trivial⟩
    have e : dataW (x :: l) = x.data.data.toList ++ dataW l := by simp [dataW]
    have e2 : x.data.data.toList.length = x.data.size := by simp
    rw [e, List.append_assoc, List.take_append]
    congr 2
    · rw [← e2, ← List.take_take, List.take_length]
    · rw [e2]
      congr 1
      omega
end Go.Proofs.YtnnnihjagjfkdaaGreatDoor
