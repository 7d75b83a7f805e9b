/-
  An area in lines, and what the program reads of it: plain, no program in sight. Own text.
-/
import Derived.Test.YtnnnihjagjfkdaaGreatDoorRefP
import Derived.Test.YtnnnihjagjfkdaaGreatDoorHistC
namespace Go.Proofs.YtnnnihjagjfkdaaGreatDoor
open Go.RowKit
set_option linter.unusedVariables false
theorem join_split (c : UInt8) (l : List UInt8) : Lib.join (splitV c l) [c] = l := by
  induction l with
  | nil => rfl
  | cons b r ih =>
    cases e : splitV c r with
    | nil => exact absurd e (splitV_ne c r)
    | cons y ys =>
      rw [e] at ih
      by_cases h : b = c
      · subst h
        rw [splitV_hit, e]
        have e2 : Lib.join ([] :: y :: ys) [b] = b :: Lib.join (y :: ys) [b] := by
          rw [Lib.join_cons, Lib.join_cons]
          simp [Lib.joinTail]
        rw [e2, ih]
      · rw [splitV_miss h e]
        rw [Lib.join_cons] at ih ⊢
        rw [List.cons_append, ih]
theorem splitV_no (c : UInt8) (l : List UInt8) : ∀ x ∈ splitV c l, c ∉ x := by
  induction l with
  | nil => intro x hx; simp [splitV] at hx; rw [hx]; simp
  | cons b r ih =>
    intro x hx
    by_cases h : b = c
    · subst h
      rw [splitV_hit] at hx
      rcases List.mem_cons.1 hx with e | e
      · rw [e]; simp
      · exact ih x e
    · cases e : splitV c r with
      | nil => exact absurd e (splitV_ne c r)
      | cons w ws =>
        rw [splitV_miss h e] at hx
        rw [e] at ih
        rcases List.mem_cons.1 hx with e2 | e2
        · rw [e2]
          intro hm
          rcases List.mem_cons.1 hm with e3 | e3
          · exact h e3.symm
          · exact ih w (by simp) e3
        · exact ih x (by simp [e2])
theorem join_two (c : UInt8) (a b : List UInt8) (r : List (List UInt8)) : Lib.join (a :: b :: r) [c] = a ++ c :: Lib.join (b :: r) [c] := by
  rw [Lib.join_cons, Lib.join_cons]
  simp [Lib.joinTail]
/-- The text from line k on. -/
def tailV (ps : List (List UInt8)) (k : Nat) : List UInt8 := Lib.join (ps.drop k) [10]
theorem tailV_step {ps : List (List UInt8)} {k : Nat} (h : k + 1 < ps.length) : tailV ps k = ps[k] ++ 10 :: tailV ps (k + 1) := by
  unfold tailV
  have e1 : ps.drop k = ps[k] :: ps.drop (k + 1) := List.drop_eq_getElem_cons (by omega)
  have e2 : ps.drop (k + 1) = ps[k + 1] :: ps.drop (k + 2) := List.drop_eq_getElem_cons h
  rw [e1, e2]
  exact join_two 10 _ _ _
theorem tailV_last {ps : List (List UInt8)} {k : Nat} (h : k + 1 = ps.length) : tailV ps k = ps[k] := by
  unfold tailV
  rw [List.drop_eq_getElem_cons (by omega), List.drop_of_length_le (by omega), Lib.join_one]
/-- The lines of an area. -/
structure Lines (S : List UInt8) (ps : List (List UInt8)) : Prop where
  is : ps = splitV 10 S
theorem Lines.no {S : List UInt8} {ps : List (List UInt8)} (h : Lines S ps) {k : Nat} (hk : k < ps.length) : 10 ∉ ps[k] := splitV_no 10 S _ (by rw [← h.is]; exact List.getElem_mem hk)
theorem Lines.all {S : List UInt8} {ps : List (List UInt8)} (h : Lines S ps) : tailV ps 0 = S := by unfold tailV; rw [h.is, List.drop_zero]; exact join_split 10 S
theorem Lines.cut {S : List UInt8} {ps : List (List UInt8)} (h : Lines S ps) {k : Nat} (hk : k + 1 < ps.length) : cutNl (tailV ps k) = some (ps[k], tailV ps (k + 1)) := by
  rw [tailV_step hk]
  exact cutNl_hit _ _ (h.no (by omega))
theorem Lines.end {S : List UInt8} {ps : List (List UInt8)} (h : Lines S ps) {k : Nat} (hk : k + 1 = ps.length) : cutNl (tailV ps k) = none := by
  rw [tailV_last hk]
  exact cutNl_no _ (h.no (by omega))
/-- When a line is the record of its words. -/
theorem line_iff (ep sq : Int) (line : List UInt8) : lineV ep sq (wordsV line).dropLast = line ++ [10] ↔ 2 ≤ (wordsV line).length ∧ hexV (sumV (Lib.itoa ep ++ [32] ++ Lib.itoa sq ++ [32] ++ bodyV (wordsV line).dropLast)) = (wordsV line).getLastD [] := by
  have hne := wordsV_ne line
  by_cases h2 : 2 ≤ (wordsV line).length
  · have hp := line_pre h2
    constructor
    · intro h
      refine ⟨h2, ?_⟩
      unfold lineV at h
      have h3 := List.append_cancel_right h
      rw [hp] at h3
      have h4 : ∀ (a : List UInt8) (b c : List UInt8), a ++ [32] ++ b = a ++ 32 :: c → b = c := fun a b c e => by
        rw [List.append_assoc] at e
        have := List.append_cancel_left e
        simpa using this
      have h5 : (wordsV (bodyV (wordsV line).dropLast ++ 32 :: (wordsV line).getLastD [])) = wordsV line := by rw [← hp]
      rw [h5] at h3
      exact h4 _ _ _ h3
    · rintro ⟨_, h⟩
      unfold lineV
      rw [h]
      conv => rhs; rw [hp]
      simp
  · constructor
    · intro h
      exfalso
      have h1 : (wordsV line).length = 1 := by
        have := List.length_pos_iff.2 hne
        omega
      have hd : (wordsV line).dropLast = [] := List.eq_nil_of_length_eq_zero (by rw [List.length_dropLast]; omega)
      rw [hd] at h
      unfold lineV at h
      have h3 := List.append_cancel_right h
      have h4 : line = 32 :: hexV (sumV (Lib.itoa ep ++ [32] ++ Lib.itoa sq ++ [32] ++ bodyV [])) := by
        rw [← h3]
        simp [bodyV, Lib.join, List.intercalate]
      rw [h4] at h1
      have h5 := wordsV_ne (hexV (sumV (Lib.itoa ep ++ [32] ++ Lib.itoa sq ++ [32] ++ bodyV [])))
      have h6 : (wordsV (32 :: hexV (sumV (Lib.itoa ep ++ [32] ++ Lib.itoa sq ++ [32] ++ bodyV [])))).length = (wordsV (hexV (sumV (Lib.itoa ep ++ [32] ++ Lib.itoa sq ++ [32] ++ bodyV [])))).length + 1 := by
        conv => lhs; unfold wordsV
        rw [if_pos rfl, List.length_cons]
      have := List.length_pos_iff.2 h5
      omega
    · rintro ⟨h, _⟩
      exact absurd h h2
theorem wordsOf_some {line epS : List UInt8} {sq : Nat} {ws : List (List UInt8)} (h : wordsOfV line epS sq = some ws) : ws = (wordsV line).dropLast ∧ 2 ≤ (wordsV line).length ∧ hexV (sumV (epS ++ [32] ++ Lib.itoa sq ++ [32] ++ bodyV (wordsV line).dropLast)) = (wordsV line).getLastD [] := by
  unfold wordsOfV at h
  split at h
  · cases h
  · split at h
    · rename_i h1 h2
      exact ⟨(Option.some.inj h).symm, by omega, h2⟩
    · cases h
theorem wordsOf_none {line epS : List UInt8} {sq : Nat} (h : wordsOfV line epS sq = none) : ¬ (2 ≤ (wordsV line).length ∧ hexV (sumV (epS ++ [32] ++ Lib.itoa sq ++ [32] ++ bodyV (wordsV line).dropLast)) = (wordsV line).getLastD []) := by
  rintro ⟨h1, h2⟩
  unfold wordsOfV at h
  rw [if_neg (by omega), if_pos h2] at h
  cases h
/-- A record behind the first is read. -/
theorem rec_yes {S : List UInt8} {ps : List (List UInt8)} (hL : Lines S ps) {k sq : Nat} (hk : k + 1 < ps.length) {s : Sc} (hr : s.rest = tailV ps k) (hs : s.seq = sq) (h1 : 1 ≤ sq) {ws : List (List UInt8)} (hw : wordsOfV ps[k] (Lib.itoa s.epoch) sq = some ws) :
    recV s = (some ws, ⟨tailV ps (k + 1), s.epoch, s.seq + 1, s.read + ps[k].length + 1⟩) := by
  obtain ⟨rfl, h2, h3⟩ := wordsOf_some hw
  have hc : cutNl s.rest = some (ps[k], tailV ps (k + 1)) := by rw [hr]; exact hL.cut hk
  have he : epochV s (wordsV ps[k]) = s.epoch := by unfold epochV; rw [if_neg (fun e => by have := e.1; omega)]
  unfold recV
  rw [hc]
  simp only
  rw [he, if_pos ((line_iff s.epoch s.seq ps[k]).2 ⟨h2, by rw [hs]; exact h3⟩)]
theorem rec_not {S : List UInt8} {ps : List (List UInt8)} (hL : Lines S ps) {k sq : Nat} (hk : k + 1 < ps.length) {s : Sc} (hr : s.rest = tailV ps k) (hs : s.seq = sq) (h1 : 1 ≤ sq) (hw : wordsOfV ps[k] (Lib.itoa s.epoch) sq = none) :
    ∃ s', recV s = (none, s') := by
  have h3 := wordsOf_none hw
  have hc : cutNl s.rest = some (ps[k], tailV ps (k + 1)) := by rw [hr]; exact hL.cut hk
  have he : epochV s (wordsV ps[k]) = s.epoch := by unfold epochV; rw [if_neg (fun e => by have := e.1; omega)]
  unfold recV
  rw [hc]
  simp only
  rw [he, if_neg (fun e => h3 (by have := (line_iff s.epoch s.seq ps[k]).1 e; rw [hs] at this; exact this))]
  exact ⟨_, rfl⟩
theorem rec_end {S : List UInt8} {ps : List (List UInt8)} (hL : Lines S ps) {k : Nat} (hk : k + 1 = ps.length) {s : Sc} (hr : s.rest = tailV ps k) : recV s = (none, s) := by
  unfold recV
  rw [hr, hL.end hk]
/-- As many lines as records. -/
theorem keeps_lines {S : List UInt8} {ps : List (List UInt8)} (hL : Lines S ps) : ∀ (n k : Nat) (q : Que) (s : Sc) (r : Que × Sc), k + 1 ≤ ps.length → s.rest = tailV ps k → keepsV n q s = some r → n + k + 1 ≤ ps.length
  | 0, k, q, s, r, hk, hr, h => by omega
  | n + 1, k, q, s, r, hk, hr, h => by
    by_cases he : k + 1 = ps.length
    · rw [keeps_none (rec_end hL he hr)] at h
      cases h
    · have hc : cutNl s.rest = some (ps[k], tailV ps (k + 1)) := by rw [hr]; exact hL.cut (by omega)
      cases e : recV s with
      | mk o s1 =>
        cases o with
        | none => rw [keeps_none e] at h; cases h
        | some l =>
          have hs1 : s1.rest = tailV ps (k + 1) := by
            unfold recV at e
            rw [hc] at e
            simp only at e
            split at e
            · simp only [Prod.mk.injEq] at e
              rw [← e.2]
            · cases e
          unfold keepsV at h
          rw [e] at h
          simp only at h
          split at h
          · split at h
            · cases h
            · have := keeps_lines hL n (k + 1) _ s1 r (by omega) hs1 h
              omega
          · cases h
/-- The head of an area. -/
structure HeadOk (ps : List (List UInt8)) (hw : List (List UInt8)) : Prop where
  len : hw.length = 5
  word : hw.getD 0 [] = beginB
  rc : wordsOfV (ps.getD 0 []) (hw.getD 1 []) 0 ≠ none
  e0 : 1 ≤ bigV (hw.getD 1 [])
  e1 : bigV (hw.getD 1 []) ≤ 1073741824
  x0 : 1 ≤ bigV (hw.getD 2 [])
  x1 : bigV (hw.getD 2 []) ≤ 1073741825
  m0 : 0 ≤ bigV (hw.getD 3 [])
  m1 : bigV (hw.getD 3 []) ≤ 64
theorem getD_dropLast {hw : List (List UInt8)} {j : Nat} (h : j + 1 < hw.length) : hw.dropLast.getD j [] = hw.getD j [] := by
  rw [List.getD_eq_getElem?_getD, List.getD_eq_getElem?_getD, List.getElem?_dropLast, if_pos (by omega)]
theorem head_yes {S : List UInt8} {ps : List (List UInt8)} (hL : Lines S ps) (h1 : 1 < ps.length) (hh : HeadOk ps (wordsV (ps.getD 0 []))) :
    begunV S = keepsV (bigV ((wordsV (ps.getD 0 [])).getD 3 [])).toNat (emptyQ (bigV ((wordsV (ps.getD 0 [])).getD 1 [])) (bigV ((wordsV (ps.getD 0 [])).getD 2 []))) ⟨tailV ps 1, bigV ((wordsV (ps.getD 0 [])).getD 1 []), 1, (ps.getD 0 []).length + 1⟩ := by
  obtain ⟨l0, hl0⟩ : ∃ l0, l0 = ps.getD 0 [] := ⟨_, rfl⟩
  have hps : ps[0] = l0 := by rw [hl0, List.getD_eq_getElem?_getD, List.getElem?_eq_getElem (by omega)]; rfl
  rw [← hl0] at hh
  rw [← hl0]
  obtain ⟨a1, a2, a3, a4, a5, a6, a7, a8, a9⟩ := hh
  rw [← hl0] at a3
  obtain ⟨n1, _⟩ := big_some (l := (wordsV l0).getD 1 []) (by omega)
  obtain ⟨n2, _⟩ := big_some (l := (wordsV l0).getD 2 []) (by omega)
  obtain ⟨n3, _⟩ := big_some (l := (wordsV l0).getD 3 []) (by omega)
  have hit : Lib.itoa (bigV ((wordsV l0).getD 1 [])) = (wordsV l0).getD 1 [] := by
    have h := (numV_ok (l := (wordsV l0).getD 1 []) (by rw [n1])).2
    rw [n1] at h
    exact h
  obtain ⟨ws, hws⟩ := Option.ne_none_iff_exists'.1 a3
  obtain ⟨hw1, hw2, hw3⟩ := wordsOf_some hws
  have hc : cutNl S = some (l0, tailV ps 1) := by
    have h := hL.cut (k := 0) h1
    rw [hL.all, hps] at h
    exact h
  have hrec : recV ⟨S, 0, 0, 0⟩ = (some (wordsV l0).dropLast, ⟨tailV ps 1, bigV ((wordsV l0).getD 1 []), 1, (l0.length : Int) + 1⟩) := by
    have he : epochV ⟨S, 0, 0, 0⟩ (wordsV l0) = bigV ((wordsV l0).getD 1 []) := by
      unfold epochV
      rw [if_pos ⟨rfl, by omega⟩, n1]
    unfold recV
    rw [hc]
    simp only
    rw [he, if_pos ((line_iff _ 0 l0).2 ⟨hw2, by rw [hit]; exact hw3⟩)]
    simp
  rw [begun_yes hrec]
  · rw [getD_dropLast (by omega), getD_dropLast (by omega), n2, n3]
  · rw [getD_dropLast (by omega), getD_dropLast (by omega), getD_dropLast (by omega), n1, n2, n3]
    exact ⟨by rw [List.length_dropLast]; omega, by rw [getD_dropLast (by omega)]; exact a2, rfl, rfl, rfl, a4, a5, a6, a7, a9⟩
theorem head_no {S : List UInt8} {ps : List (List UInt8)} (hL : Lines S ps) (hp : 0 < ps.length) (h : ¬ (1 < ps.length ∧ HeadOk ps (wordsV (ps.getD 0 [])))) : begunV S = none := by
  by_cases h1 : 1 < ps.length
  · obtain ⟨l0, hl0⟩ : ∃ l0, l0 = ps.getD 0 [] := ⟨_, rfl⟩
    have hps : ps[0] = l0 := by rw [hl0, List.getD_eq_getElem?_getD, List.getElem?_eq_getElem (by omega)]; rfl
    rw [← hl0] at h
    have hc : cutNl S = some (l0, tailV ps 1) := by
      have h := hL.cut (k := 0) h1
      rw [hL.all, hps] at h
      exact h
    cases e : recV ⟨S, 0, 0, 0⟩ with
    | mk o s1 =>
      cases o with
      | none => exact begun_none e
      | some l =>
        by_cases hb : BegOk l s1.epoch (numV (l.getD 1 [])) (numV (l.getD 2 [])) (numV (l.getD 3 []))
        · exfalso
          refine h ⟨h1, ?_⟩
          unfold recV at e
          rw [hc] at e
          simp only at e
          split at e
          · rename_i hli
            simp only [Prod.mk.injEq, Option.some.injEq] at e
            obtain ⟨rfl, rfl⟩ := e
            obtain ⟨b1, b2, b3, b4, b5, b6, b7, b8, b9, b10⟩ := hb
            have hlen : (wordsV l0).length = 5 := by
              have h := b1
              rw [List.length_dropLast] at h
              omega
            rw [getD_dropLast (by omega)] at b2 b3 b4 b5 b8 b9 b10
            have he : epochV ⟨S, 0, 0, 0⟩ (wordsV l0) = (numV ((wordsV l0).getD 1 [])).1 := by
              unfold epochV
              rw [if_pos ⟨rfl, by omega⟩]
            rw [he] at hli
            simp only [he] at b6 b7
            have c1 := big_of b3 (by omega)
            have c2 := big_of b4 (by omega)
            have c3 := big_of b5 (by omega)
            have d3 := (numV_ok b5).1
            have hit := (numV_ok b3).2
            obtain ⟨f1, f2⟩ := (line_iff _ 0 l0).1 hli
            rw [hit] at f2
            refine ⟨hlen, b2, ?_, by rw [c1]; exact b6, by rw [c1]; exact b7, by rw [c2]; exact b8, by rw [c2]; exact b9, by rw [c3]; exact d3, by rw [c3]; exact b10⟩
            rw [← hl0]
            exact fun hn => wordsOf_none hn ⟨f1, f2⟩
          · cases e
        · exact begun_no e hb
  · have he : 0 + 1 = ps.length := by omega
    exact begun_none (rec_end hL he (s := ⟨S, 0, 0, 0⟩) (by rw [hL.all]))
end Go.Proofs.YtnnnihjagjfkdaaGreatDoor
