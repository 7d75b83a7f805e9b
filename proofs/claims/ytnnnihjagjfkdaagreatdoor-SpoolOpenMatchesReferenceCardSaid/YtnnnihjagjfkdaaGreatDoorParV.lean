/-
  How an area reads: lines, words, numbers. Plain. Own text.
-/
import Derived.Test.YtnnnihjagjfkdaaGreatDoorLine
import Derived.Lib.SplitLaws
import Derived.Lib.AtoiAllCases
import Derived.Lib.IndexBytes
import Derived.Lib.IndexLaws
namespace Go.Proofs.YtnnnihjagjfkdaaGreatDoor
open Go.RowKit
set_option linter.unusedVariables false
/-- The text ahead of the first line feed, and what is behind. -/
def cutNl : List UInt8 → Option (List UInt8 × List UInt8)
  | [] => none
  | c :: r => if c = 10 then some ([], r) else (cutNl r).map fun p => (c :: p.1, p.2)
theorem cutNl_app (a b : List UInt8) (h : 10 ∉ a) : cutNl (a ++ 10 :: b) = some (a, b) := by
  induction a with
  | nil => simp [cutNl]
  | cons c a ih =>
    have hc : ¬ c = 10 := fun e => h (by simp [e])
    have ha : 10 ∉ a := fun e => h (by simp [e])
    rw [List.cons_append, cutNl, if_neg hc, ih ha]
    rfl
theorem cutNl_some {s a b : List UInt8} (h : cutNl s = some (a, b)) : s = a ++ 10 :: b ∧ 10 ∉ a := by
  induction s generalizing a b with
  | nil => cases h
  | cons c r ih =>
    unfold cutNl at h
    by_cases hc : c = 10
    · rw [if_pos hc] at h
      simp only [Option.some.injEq, Prod.mk.injEq] at h
      obtain ⟨rfl, rfl⟩ := h
      exact ⟨by rw [hc]; rfl, by simp⟩
    · rw [if_neg hc] at h
      cases e : cutNl r with
      | none => rw [e] at h; cases h
      | some p =>
        rw [e] at h
        simp only [Option.map_some, Option.some.injEq, Prod.mk.injEq] at h
        obtain ⟨rfl, rfl⟩ := h
        obtain ⟨h1, h2⟩ := ih (a := p.1) (b := p.2) (by rw [e])
        refine ⟨by rw [h1]; rfl, ?_⟩
        intro hm
        rcases List.mem_cons.1 hm with e2 | e2
        · exact hc e2.symm
        · exact h2 e2
theorem cutNl_none {s : List UInt8} (h : cutNl s = none) : 10 ∉ s := by
  induction s with
  | nil => simp
  | cons c r ih =>
    unfold cutNl at h
    by_cases hc : c = 10
    · rw [if_pos hc] at h; cases h
    · rw [if_neg hc] at h
      have hr : cutNl r = none := by
        cases e2 : cutNl r with
        | none => rfl
        | some p => rw [e2] at h; cases h
      intro hm
      rcases List.mem_cons.1 hm with e2 | e2
      · exact hc e2.symm
      · exact ih hr e2
theorem cut_nl (s : List UInt8) : Lib.cut s [10] = match cutNl s with
    | some p => (p.1, p.2, true)
    | none => (s, [], false) := by
  have hix : Lib.index s [10] = Lib.indexByte s 10 := Lib.index_one s 10
  cases e : cutNl s with
  | none =>
    have hn := cutNl_none e
    have hm : Lib.index s [10] = -1 := by
      rw [hix]
      rcases Int.lt_or_le (Lib.indexByte s 10) 0 with h | h
      · have := Lib.indexByte_ge s 10; omega
      · obtain ⟨o, ho⟩ : ∃ o : Nat, Lib.indexByte s 10 = o := ⟨(Lib.indexByte s 10).toNat, by omega⟩
        exact absurd (List.mem_of_getElem? (Lib.indexByte_some ho).1) hn
    unfold Lib.cut
    rw [hm, if_neg (by omega)]
  | some p =>
    obtain ⟨h1, h2⟩ := cutNl_some (a := p.1) (b := p.2) (by rw [e])
    have hm : Lib.index s [10] = (p.1.length : Int) := by
      rw [hix]
      rcases Int.lt_or_le (Lib.indexByte s 10) 0 with h | h
      · have h3 := Lib.indexByte_ge s 10
        have h4 := Lib.indexByte_none (l := s) (c := 10) (by omega) p.1.length
        rw [h1, List.getElem?_append_right (Nat.le_refl _), Nat.sub_self] at h4
        simp at h4
      · obtain ⟨o, ho⟩ : ∃ o : Nat, Lib.indexByte s 10 = o := ⟨(Lib.indexByte s 10).toNat, by omega⟩
        obtain ⟨h3, h4⟩ := Lib.indexByte_some ho
        rw [ho]
        rcases Nat.lt_trichotomy o p.1.length with hlt | heq | hgt
        · rw [h1, List.getElem?_append_left hlt] at h3
          exact absurd (List.mem_of_getElem? h3) h2
        · rw [heq]
        · have h5 := h4 p.1.length hgt
          rw [h1, List.getElem?_append_right (Nat.le_refl _), Nat.sub_self] at h5
          simp at h5
    unfold Lib.cut
    rw [hm, if_pos (by omega)]
    show (s.take p.1.length, s.drop (p.1.length + 1), true) = (p.1, p.2, true)
    rw [h1]
    simp
/-- The words of a line. -/
def wordsV : List UInt8 → List (List UInt8)
  | [] => [[]]
  | c :: r => if c = 32 then [] :: wordsV r else match wordsV r with
    | [] => [[c]]
    | w :: ws => (c :: w) :: ws
theorem wordsV_ne (l : List UInt8) : wordsV l ≠ [] := by
  cases l with
  | nil => simp [wordsV]
  | cons c r =>
    unfold wordsV
    split
    · simp
    · split <;> simp
theorem wordsV_app (a b : List UInt8) (h : 32 ∉ a) : wordsV (a ++ 32 :: b) = a :: wordsV b := by
  induction a with
  | nil => simp [wordsV]
  | cons c a ih =>
    have hc : ¬ c = 32 := fun e => h (by simp [e])
    have ha : 32 ∉ a := fun e => h (by simp [e])
    rw [List.cons_append, wordsV, if_neg hc, ih ha]
theorem wordsV_one (a : List UInt8) (h : 32 ∉ a) : wordsV a = [a] := by
  induction a with
  | nil => rfl
  | cons c a ih =>
    have hc : ¬ c = 32 := fun e => h (by simp [e])
    have ha : 32 ∉ a := fun e => h (by simp [e])
    rw [wordsV, if_neg hc, ih ha]
/-- The words of words with spaces between. -/
theorem wordsV_join (ws : List (List UInt8)) (hn : ws ≠ []) (h : ∀ w ∈ ws, 32 ∉ w) : wordsV (Lib.join ws [32]) = ws := by
  induction ws with
  | nil => exact absurd rfl hn
  | cons w r ih =>
    cases r with
    | nil => rw [Lib.join_one]; exact wordsV_one w (h w (by simp))
    | cons y r =>
      have e : Lib.join (w :: y :: r) [32] = w ++ 32 :: Lib.join (y :: r) [32] := by
        rw [Lib.join_cons, Lib.join_cons]
        simp [Lib.joinTail]
      rw [e, wordsV_app w _ (h w (by simp)), ih (by simp) (fun x hx => h x (by simp [hx]))]
theorem join_words (l : List UInt8) : Lib.join (wordsV l) [32] = l := by
  induction l with
  | nil => rfl
  | cons c r ih =>
    unfold wordsV
    by_cases hc : c = 32
    · rw [if_pos hc]
      cases e : wordsV r with
      | nil => exact absurd e (wordsV_ne r)
      | cons y ys =>
        rw [e] at ih
        have e2 : Lib.join ([] :: y :: ys) [32] = 32 :: Lib.join (y :: ys) [32] := by
          rw [Lib.join_cons, Lib.join_cons]
          simp [Lib.joinTail]
        rw [e2, ih, hc]
    · rw [if_neg hc]
      cases e : wordsV r with
      | nil => exact absurd e (wordsV_ne r)
      | cons y ys =>
        rw [e, Lib.join_cons] at ih
        show Lib.join ((c :: y) :: ys) [32] = c :: r
        rw [Lib.join_cons, List.cons_append, ih]
theorem split_hit (a b : List UInt8) (k : Nat) (h : 32 ∉ a) : Lib.splitK [32] 0 (k + 1) (a ++ 32 :: b) = a :: Lib.splitK [32] 0 k b := by
  have hix : Lib.index (a ++ 32 :: b) [32] = (a.length : Int) := by
    rw [Lib.index_one]
    rcases Int.lt_or_le (Lib.indexByte (a ++ 32 :: b) 32) 0 with h0 | h0
    · have h3 := Lib.indexByte_ge (a ++ 32 :: b) 32
      have h4 := Lib.indexByte_none (l := a ++ 32 :: b) (c := 32) (by omega) a.length
      rw [List.getElem?_append_right (Nat.le_refl _), Nat.sub_self] at h4
      simp at h4
    · obtain ⟨o, ho⟩ : ∃ o : Nat, Lib.indexByte (a ++ 32 :: b) 32 = o := ⟨(Lib.indexByte (a ++ 32 :: b) 32).toNat, by omega⟩
      obtain ⟨h3, h4⟩ := Lib.indexByte_some ho
      rw [ho]
      rcases Nat.lt_trichotomy o a.length with hlt | heq | hgt
      · rw [List.getElem?_append_left hlt] at h3
        exact absurd (List.mem_of_getElem? h3) h
      · rw [heq]
      · have h5 := h4 a.length hgt
        rw [List.getElem?_append_right (Nat.le_refl _), Nat.sub_self] at h5
        simp at h5
  show (if Lib.index (a ++ 32 :: b) [32] == -1 then [a ++ 32 :: b] else (a ++ 32 :: b).take ((Lib.index (a ++ 32 :: b) [32]).toNat + 0) :: Lib.splitK [32] 0 k ((a ++ 32 :: b).drop ((Lib.index (a ++ 32 :: b) [32]).toNat + 1))) = _
  rw [if_neg (fun e => by have := beq_iff_eq.1 e; omega), hix]
  have e1 : (a ++ 32 :: b).take (((a.length : Int)).toNat + 0) = a := by simp
  have e2 : (a ++ 32 :: b).drop (((a.length : Int)).toNat + 1) = b := by simp
  rw [e1, e2]
theorem split_words (l : List UInt8) : Lib.splitK [32] 0 (Lib.count l [32]) l = wordsV l := by
  rw [Lib.count_one]
  generalize hk : l.count 32 = k
  induction k generalizing l with
  | zero =>
    have h : 32 ∉ l := List.count_eq_zero.1 hk
    rw [wordsV_one l h]
    rfl
  | succ k ih =>
    have hm : (32 : UInt8) ∈ l := List.count_pos_iff.1 (by omega)
    -- the first space
    have hcut : ∃ a b, l = a ++ 32 :: b ∧ 32 ∉ a := by
      clear hk ih
      induction l with
      | nil => simp at hm
      | cons c r ih =>
        by_cases hc : c = 32
        · exact ⟨[], r, by rw [hc]; rfl, by simp⟩
        · have hr : (32 : UInt8) ∈ r := by
            rcases List.mem_cons.1 hm with e | e
            · exact absurd e.symm hc
            · exact e
          obtain ⟨a, b, e, h⟩ := ih hr
          refine ⟨c :: a, b, by rw [e]; rfl, ?_⟩
          intro h2
          rcases List.mem_cons.1 h2 with e2 | e2
          · exact hc e2.symm
          · exact h e2
    obtain ⟨a, b, rfl, ha⟩ := hcut
    have hb : b.count 32 = k := by
      rw [List.count_append, List.count_eq_zero.2 ha, List.count_cons_self] at hk
      omega
    rw [split_hit a b k ha, wordsV_app a b ha, ih b hb]
theorem wordsV_len (l : List UInt8) : (wordsV l).length ≤ l.length + 1 := by
  induction l with
  | nil => simp [wordsV]
  | cons c r ih =>
    unfold wordsV
    split
    · simp only [List.length_cons]; omega
    · cases e : wordsV r with
      | nil => simp
      | cons y ys => rw [e] at ih; simp only [List.length_cons] at ih ⊢; omega
/-- A number without leading zeros: its value as Atoi gives it, and whether it is one. -/
def numV (l : List UInt8) : Int × Bool :=
  match Lib.atoiAll l with
  | .ok v => (v, decide (0 ≤ v) && (Lib.itoa v == l))
  | .range => (Lib.atoiSat l, false)
  | _ => (0, false)
theorem numV_bd (l : List UInt8) : -9223372036854775808 ≤ (numV l).1 ∧ (numV l).1 ≤ 9223372036854775807 := by
  unfold numV
  cases e : Lib.atoiAll l with
  | ok v => exact Lib.atoiAll_bounds e
  | range => exact Lib.atoiSat_bounds l
  | _ => simp
theorem numV_ok {l : List UInt8} (h : (numV l).2 = true) : 0 ≤ (numV l).1 ∧ Lib.itoa (numV l).1 = l := by
  unfold numV at h ⊢
  cases e : Lib.atoiAll l with
  | ok v =>
    rw [e] at h
    simp only [Bool.and_eq_true, decide_eq_true_eq, beq_iff_eq] at h
    exact h
  | _ => rw [e] at h; cases h
/-- An area that is read. -/
structure Sc where
  rest : List UInt8
  epoch : Int
  seq : Int
  read : Int
def epochV (s : Sc) (ws : List (List UInt8)) : Int := if s.seq = 0 ∧ 1 < ws.length then (numV (ws.getD 1 [])).1 else s.epoch
/-- The next record. -/
def recV (s : Sc) : Option (List (List UInt8)) × Sc :=
  match cutNl s.rest with
  | none => (none, s)
  | some p =>
    if lineV (epochV s (wordsV p.1)) s.seq (wordsV p.1).dropLast = p.1 ++ [10] then (some (wordsV p.1).dropLast, { rest := p.2, epoch := epochV s (wordsV p.1), seq := s.seq + 1, read := s.read + p.1.length + 1 })
    else (none, { s with epoch := epochV s (wordsV p.1) })
theorem joinTail_len (r : List (List UInt8)) (x : List UInt8) : (Lib.joinTail [32] r).length ≤ (Lib.joinTail [32] (r ++ [x])).length := by
  simp [Lib.joinTail]
theorem body_dropLast (ws : List (List UInt8)) : (bodyV ws.dropLast).length ≤ (bodyV ws).length := by
  unfold bodyV
  rcases List.eq_nil_or_concat ws with h | ⟨l, x, h⟩
  · rw [h]; exact Nat.le_refl _
  · rw [h, List.concat_eq_append, List.dropLast_concat]
    cases l with
    | nil => simp [Lib.join, List.intercalate]
    | cons y l =>
      rw [List.cons_append, Lib.join_cons, Lib.join_cons, List.length_append, List.length_append]
      have := joinTail_len l x
      omega
end Go.Proofs.YtnnnihjagjfkdaaGreatDoor
