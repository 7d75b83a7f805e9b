/-
  What Open makes of two areas: plain. Own text.
-/
import Derived.Test.YtnnnihjagjfkdaaGreatDoorBeg
namespace Go.Proofs.YtnnnihjagjfkdaaGreatDoor
open Go.RowKit
set_option linter.unusedVariables false
def bestV (x : Option (Que × Sc)) (k : Int) (y : Option (Que × Sc)) : Option (Que × Sc) :=
  match y with
  | none => x
  | some (q, s) => match x with
    | none => some ({ q with area := k }, s)
    | some (q0, s0) => if q0.epoch < q.epoch then some ({ q with area := k }, s) else some (q0, s0)
/-- The records behind the beginning. -/
def runV : Nat → Que → Sc → Que × Sc
  | 0, q, s => (q, s)
  | n + 1, q, s => match recV s with
    | (none, _) => (q, s)
    | (some l, s') => match applyV q l with
      | none => (q, s)
      | some q' => runV n q' s'
theorem run_none {n : Nat} {q : Que} {s s' : Sc} (h : recV s = (none, s')) : runV (n + 1) q s = (q, s) := by
  conv => lhs; unfold runV
  rw [h]
theorem run_bad {n : Nat} {q : Que} {s s' : Sc} {l : List (List UInt8)} (h : recV s = (some l, s')) (ha : applyV q l = none) : runV (n + 1) q s = (q, s) := by
  conv => lhs; unfold runV
  rw [h]
  simp only
  rw [ha]
theorem run_yes {n : Nat} {q q' : Que} {s s' : Sc} {l : List (List UInt8)} (h : recV s = (some l, s')) (ha : applyV q l = some q') : runV (n + 1) q s = runV n q' s' := by
  conv => lhs; unfold runV
  rw [h]
  simp only
  rw [ha]
/-- The bytes of an area: those that were read and the others. -/
def Sums (s : Sc) (n : Nat) : Prop := s.read + (s.rest.length : Int) = n
theorem recV_sum {s s' : Sc} {l : List (List UInt8)} {n : Nat} (h : recV s = (some l, s')) (hs : Sums s n) : Sums s' n ∧ s'.rest.length < s.rest.length := by
  unfold recV at h
  cases hc : cutNl s.rest with
  | none => rw [hc] at h; cases h
  | some p =>
    rw [hc] at h
    simp only at h
    split at h
    · simp only [Prod.mk.injEq, Option.some.injEq] at h
      obtain ⟨rfl, rfl⟩ := h
      have h1 := (cutNl_some (a := p.1) (b := p.2) (by rw [hc])).1
      have h2 : s.rest.length = p.1.length + 1 + p.2.length := by rw [h1]; simp; omega
      unfold Sums at hs ⊢
      simp only
      omega
    · cases h
theorem keeps_sum : ∀ (n : Nat) {q q' : Que} {s s' : Sc} {N : Nat}, keepsV n q s = some (q', s') → Sums s N → Sums s' N
  | 0, q, q', s, s', N, h, hs => by
    simp only [keepsV, Option.some.injEq, Prod.mk.injEq] at h
    rw [← h.2]; exact hs
  | n + 1, q, q', s, s', N, h, hs => by
    unfold keepsV at h
    cases hr : recV s with
    | mk o s1 =>
      rw [hr] at h
      cases o with
      | none => cases h
      | some l =>
        simp only at h
        split at h
        · split at h
          · cases h
          · exact keeps_sum n h (recV_sum hr hs).1
        · cases h
theorem begun_sum {a : List UInt8} {q : Que} {s : Sc} (h : begunV a = some (q, s)) : Sums s a.length := by
  unfold begunV at h
  cases hr : recV ⟨a, 0, 0, 0⟩ with
  | mk o s1 =>
    rw [hr] at h
    cases o with
    | none => cases h
    | some l =>
      simp only at h
      split at h
      · exact keeps_sum _ h (recV_sum hr (by unfold Sums; simp)).1
      · cases h
theorem run_sum : ∀ (n : Nat) (q : Que) (s : Sc) {N : Nat}, Sums s N → Sums (runV n q s).2 N
  | 0, q, s, N, hs => hs
  | n + 1, q, s, N, hs => by
    unfold runV
    cases hr : recV s with
    | mk o s1 =>
      cases o with
      | none => exact hs
      | some l =>
        simp only
        split
        · exact hs
        · exact run_sum n _ _ (recV_sum hr hs).1
/-- The queue that Open returns, out of what was read. -/
def endQ (A B : List UInt8) (p : Que × Sc) : Que :=
  { p.1 with a0 := if p.1.area = 0 then strB (A.take p.2.read.toNat) else strB A, a1 := if p.1.area = 0 then strB B else strB (B.take p.2.read.toNat), size := p.2.read, seq := p.2.seq }
noncomputable def bestAB (A B : List UInt8) : Option (Que × Sc) := bestV (bestV none 0 (begunV A)) 1 (begunV B)
/-- Open. -/
noncomputable def openV (A B : List UInt8) : Except Int Que :=
  if 65536 < A.length ∨ 65536 < B.length then .error 2 else
  match bestAB A B with
  | none => .error 21
  | some (q, s) => .ok (endQ A B (runV (s.rest.length + 1) q s))
theorem openV_large {A B : List UInt8} (h : 65536 < A.length ∨ 65536 < B.length) : openV A B = .error 2 := by
  unfold openV
  exact if_pos h
theorem openV_lost {A B : List UInt8} (h : ¬ (65536 < A.length ∨ 65536 < B.length)) (hb : bestAB A B = none) : openV A B = .error 21 := by
  unfold openV
  rw [if_neg h, hb]
theorem openV_ok {A B : List UInt8} {q : Que} {s : Sc} (h : ¬ (65536 < A.length ∨ 65536 < B.length)) (hb : bestAB A B = some (q, s)) : openV A B = .ok (endQ A B (runV (s.rest.length + 1) q s)) := by
  unfold openV
  rw [if_neg h, hb]
theorem applyV_ok {q q' : Que} {l : List (List UInt8)} (h : applyV q l = some q') (hj : q.jobs.length ≤ 64) (h0 : 0 ≤ q.next) (h1 : q.next ≤ 1073741825) : q'.jobs.length ≤ 64 ∧ 0 ≤ q'.next ∧ q'.next ≤ 1073741825 ∧ q'.area = q.area := by
  unfold applyV at h
  split at h
  · obtain ⟨hk, rfl⟩ := keepV_some h
    obtain ⟨_, _, _, k4, k5, k6⟩ := hk
    rw [if_pos rfl] at k5
    refine ⟨?_, ?_, ?_, rfl⟩
    · show (q.jobs ++ [_]).length ≤ 64
      rw [List.length_append]
      show q.jobs.length + 1 ≤ 64
      omega
    · show 0 ≤ q.next + 1
      omega
    · show q.next + 1 ≤ 1073741825
      omega
  · split at h
    · unfold dropV at h
      split at h
      · split at h
        · cases h
        · obtain rfl := Option.some.inj h
          refine ⟨?_, h0, h1, rfl⟩
          show (q.jobs.eraseIdx _).length ≤ 64
          have := List.length_eraseIdx_le q.jobs (by assumption)
          omega
      · cases h
    · cases h
end Go.Proofs.YtnnnihjagjfkdaaGreatDoor
