/-
  The faults of a cycle, as the machine finds them. Plain. Own text.
-/
import Derived.Test.YtcpjpmijfjdifaaGreatDoorSortF
import Derived.Test.YtcpjpmijfjdifaaGreatDoorFinish
namespace Go.Proofs.YtcpjpmijfjdifaaGreatDoor
open Go.RowKit
set_option linter.unusedVariables false
def atCyc (c : Nat) (x : Ft) : Bool := x.cyc == (c : Int)
theorem hit_eq (c k : Nat) (l : List Ft) : l.filter (hit c k) = (l.filter (atCyc c)).filter (ofF k) := by
  rw [List.filter_filter]
  refine List.filter_congr fun x _ => ?_
  unfold hit atCyc ofF
  rw [Bool.and_comm]
theorem one_hit {F : List Ft} (h : F.Pairwise fun x y => sameF y x = false) (c k : Nat) : (F.filter (hit c k)).length ≤ 1 := by
  have h1 := h.filter (hit c k)
  have h2 : ∀ x ∈ F.filter (hit c k), x.cyc = c ∧ x.fdr = k := fun x hx => by
    have := (List.mem_filter.1 hx).2
    simpa [hit] using this
  match hF : F.filter (hit c k) with
  | [] => simp
  | [x] => simp
  | x :: y :: r =>
    exfalso
    rw [hF] at h1 h2
    have h3 := (List.pairwise_cons.1 h1).1 y (by simp)
    have hx := h2 x (by simp)
    have hy := h2 y (by simp)
    simp [sameF, hx.1, hx.2, hy.1, hy.2] at h3
theorem perm_short {α : Type} {l m : List α} (h : l.Perm m) (h1 : m.length ≤ 1) : l = m := by
  match m, h1 with
  | [], _ => exact h.eq_nil
  | [x], _ => exact List.perm_singleton.1 h
/-- Where the machine stands in the sorted faults. -/
structure Stand (F S : List Ft) (c d : Nat) : Prop where
  perm : S.Perm F
  sort : S.Pairwise fun x y => x.cyc ≤ y.cyc
  low : ∀ i (h : i < S.length), i < d → S[i].cyc < c
  high : ∀ i (h : i < S.length), d ≤ i → (c : Int) ≤ S[i].cyc
  dl : d ≤ S.length
theorem Stand.le {F S : List Ft} {c d : Nat} (h : Stand F S c d) {i j : Nat} (hi : i < S.length) (hj : j < S.length) (hij : i ≤ j) : S[i].cyc ≤ S[j].cyc := by
  by_cases e : i = j
  · subst e; exact Int.le_refl _
  · exact List.pairwise_iff_getElem.1 h.sort i j hi hj (by omega)
theorem Stand.next {F S : List Ft} {c d n : Nat} (h : Stand F S c d) (hn : d + n ≤ S.length) (heq : ∀ i (hi : i < S.length), d ≤ i → i < d + n → S[i].cyc = c) (hend : ∀ hi : d + n < S.length, S[d + n].cyc ≠ c) : Stand F S (c + 1) (d + n) := by
  refine ⟨h.perm, h.sort, fun i hi hlt => ?_, fun i hi hge => ?_, hn⟩
  · by_cases e : i < d
    · have := h.low i hi e; omega
    · have := heq i hi (by omega) hlt; omega
  · have h1 := h.le (i := d + n) (by omega) hi hge
    have h2 := h.high (d + n) (by omega) (by omega)
    have h3 := hend (by omega)
    omega
theorem Stand.pre {F S : List Ft} {c d n : Nat} (h : Stand F S c d) (hn : d + n ≤ S.length) (heq : ∀ i (hi : i < S.length), d ≤ i → i < d + n → S[i].cyc = c) (hend : ∀ hi : d + n < S.length, S[d + n].cyc ≠ c) : S.filter (atCyc c) = (S.drop d).take n := by
  have hs : S = S.take d ++ ((S.drop d).take n ++ S.drop (d + n)) := by
    rw [← List.drop_drop, List.take_append_drop, List.take_append_drop]
  have hx := h.next hn heq hend
  conv => lhs; rw [hs]
  rw [List.filter_append, List.filter_append]
  have e1 : (S.take d).filter (atCyc c) = [] := List.filter_eq_nil_iff.2 fun x hx => by
    obtain ⟨i, hi, rfl⟩ := List.mem_iff_getElem.1 hx
    rw [List.length_take] at hi
    rw [List.getElem_take]
    have := h.low i (by omega) (by omega)
    unfold atCyc
    simp
    omega
  have e2 : (S.drop (d + n)).filter (atCyc c) = [] := List.filter_eq_nil_iff.2 fun x hxm => by
    obtain ⟨i, hi, rfl⟩ := List.mem_iff_getElem.1 hxm
    rw [List.length_drop] at hi
    rw [List.getElem_drop]
    have := hx.high (d + n + i) (by omega) (by omega)
    unfold atCyc
    simp
    omega
  have e3 : ((S.drop d).take n).filter (atCyc c) = (S.drop d).take n := List.filter_eq_self.2 fun x hxm => by
    obtain ⟨i, hi, rfl⟩ := List.mem_iff_getElem.1 hxm
    rw [List.length_take, List.length_drop] at hi
    rw [List.getElem_take, List.getElem_drop]
    have := heq (d + i) (by omega) (by omega) (by omega)
    unfold atCyc
    simp
    omega
  rw [e1, e2, e3]
  simp
theorem Stand.fed {F S : List Ft} {c d n : Nat} (h : Stand F S c d) (hone : F.Pairwise fun x y => sameF y x = false) (hn : d + n ≤ S.length) (heq : ∀ i (hi : i < S.length), d ≤ i → i < d + n → S[i].cyc = c) (hend : ∀ hi : d + n < S.length, S[d + n].cyc ≠ c) (k : Nat) : ((S.drop d).take n).filter (ofF k) = F.filter (hit c k) := by
  rw [← h.pre hn heq hend, ← hit_eq]
  exact perm_short (h.perm.filter _) (one_hit hone c k)
theorem Stand.zero {F S : List Ft} (hp : S.Perm F) (hs : S.Pairwise fun x y => x.cyc ≤ y.cyc) (h0 : ∀ x ∈ F, 0 ≤ x.cyc) : Stand F S 0 0 :=
  ⟨hp, hs, fun i _ h => by omega, fun i h _ => h0 _ (hp.mem_iff.1 (List.getElem_mem h)), Nat.zero_le _⟩
/-- A measure of the cycles to come. -/
theorem rem_go {fs : List (List Pt)} {F S : List Ft} {c d n : Nat} {a : Nat → Nat} (h : Stand F S c d) (hone : F.Pairwise fun x y => sameF y x = false) (hn : d + n ≤ S.length) (heq : ∀ i (hi : i < S.length), d ≤ i → i < d + n → S[i].cyc = c) (hend : ∀ hi : d + n < S.length, S[d + n].cyc ≠ c) (he : hasEmpty fs a = false) (hw : Within fs a) (h1 : 1 ≤ fs.length) :
    remTo fs (goOn fs F c a) fs.length + (S.length - (d + n)) < remTo fs a fs.length + (S.length - d) := by
  have hle := remTo_le fs a (goOn fs F c a) fs.length (fun k hk => Nat.le_add_right _ _)
  by_cases e : n = 0
  · have hf : F.filter (hit c 0) = [] := by
      rw [← h.fed hone hn heq hend 0, e]
      simp
    have hfd : fedV fs F c a 0 = 1 := by
      unfold fedV
      rw [hf]
      rfl
    have := remTo_lt fs a (goOn fs F c a) fs.length (fun k hk => Nat.le_add_right _ _) 0 (by omega) (hasEmpty_no he hw (by omega)) (by show a 0 < a 0 + fedV fs F c a 0; omega)
    omega
  · omega
end Go.Proofs.YtcpjpmijfjdifaaGreatDoor
