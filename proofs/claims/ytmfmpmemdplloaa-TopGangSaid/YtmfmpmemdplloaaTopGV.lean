/-
  TopGang: plain laws. No program in sight. Own text.
-/
import Derived.Test.YtmfmpmemdplloaaBest
import Derived.Test.YtmfmpmemdplloaaDisj
import Derived.Test.YtmfmpmemdplloaaSur2
namespace Go.Proofs.Ytmfmpmemdplloaa
open Go.RowKit
set_option linter.unusedVariables false
/-- The pieces of the best tree of one kind that is worth 1: as many as the tree is worth. -/
theorem area_const {it : Item} : ∀ {l : List Rect}, (∀ r ∈ l, r.w * r.h = it.w * it.h) → area l = l.length * (it.w * it.h) := by
  intro l
  induction l with
  | nil => intro _; simp [area]
  | cons r l ih =>
    intro h
    have h1 := ih (fun q hq => h q (List.mem_cons_of_mem _ hq))
    have h2 := h r (by simp)
    have e : area (r :: l) = r.w * r.h + area l := by simp [area]
    rw [e, h1, h2, List.length_cons]
    rw [show ((l.length + 1 : Nat) : Int) = (l.length : Int) + 1 by omega, Int.add_mul]
    omega
theorem worth_one {it : Item} (hv : it.value = 1) : ∀ {l : List Rect}, (∀ r ∈ l, r.item = 0) → worth [it] l = l.length := by
  intro l
  induction l with
  | nil => intro _; rfl
  | cons r l ih =>
    intro h
    have h1 := ih (fun q hq => h q (List.mem_cons_of_mem _ hq))
    have h2 := h r (by simp)
    have e : worth [it] (r :: l) = ([it][r.item.toNat]?.map Item.value).getD 0 + worth [it] l := by simp [worth]
    rw [e, h1, h2]
    simp [hv]
    omega
theorem fits_area {it : Item} {w h : Int} (hf : fitsB it w h = true) : w * h = it.w * it.h := by
  unfold fitsB at hf
  simp only [Bool.or_eq_true, Bool.and_eq_true, beq_iff_eq] at hf
  rcases hf with ⟨h1, h2⟩ | h3
  · subst h1 h2; rfl
  · obtain ⟨h1, h2⟩ : it.w = h ∧ it.h = w := by omega
    subst h1 h2
    exact Int.mul_comm _ _
theorem topCut {W H : Nat} {it : Item} (hz : beginV W H [it] = 0) (hv : it.value = 1) :
    ∃ s, piecesV W H [it] (treeV [it] 80 W H) = .ok s ∧ (s.rects.length : Int) = bval [it] W H ∧ s.waste = W * H - bval [it] W H * it.w * it.h ∧ s.rects.length ≤ 4096 := by
  have hb := beginV_zero hz
  have hx := hb
  unfold Box at hx
  have p1 : (W : Int) * H ≤ 40 * 40 := Int.mul_le_mul (by omega) (by omega) (by omega) (by omega)
  obtain ⟨s, hw, _, l, hr, hval⟩ := treeV_walk [it] 80 W H 0 0 ⟨0, [], 0⟩ (by omega) (by omega) (by omega) (by show ((0 : Nat) : Int) + _ ≤ _; omega)
  have hA := walkV_adds _ _ _ _ _ _ _ _ _ hb hw
  obtain ⟨_, h2, l', h3, h4, _, _, h7, h8⟩ := hA
  have e : s.rects = l := hr
  have e' : s.rects = l' := h3
  have hp : piecesV W H [it] (treeV [it] 80 W H) = .ok s := by unfold piecesV; rw [if_neg (by rw [hz]; omega)]; exact hw
  have hitem : ∀ r ∈ s.rects, r.item = 0 ∧ r.w * r.h = it.w * it.h := by
    intro r hr
    rw [e'] at hr
    obtain ⟨_, p, hp, e1, e2⟩ := h4 r hr
    have hp0 : p = 0 := by simpa using hp
    subst hp0
    exact ⟨by simpa using e1, fits_area e2⟩
  have hlen : (s.rects.length : Int) = bval [it] W H := by
    rw [← hval, ← e, worth_one hv (fun r hr => (hitem r hr).1)]
  have harea := area_const (it := it) (fun r hr => (hitem r hr).2)
  obtain ⟨_, _, _, _, hsum, h9⟩ := pieces_ok hp
  refine ⟨s, hp, hlen, ?_, h9⟩
  rw [harea, hlen] at hsum
  rw [Int.mul_assoc]
  omega
/-! ### The plates -/
def jl (m : Nat) : List Int := (List.range m).map (fun i : Nat => (i : Int))
theorem jl_len (m : Nat) : (jl m).length = m := by simp [jl]
theorem jl_succ (m : Nat) : jl (m + 1) = jl m ++ [(m : Int)] := by simp [jl, List.range_succ]
theorem sumAt_range (x : Nat → Int) (k : Nat) : ∀ m, sumAt ((List.range m).map (fun i : Nat => ((i : Int), x i))) k = if k < m then x k else 0 := by
  intro m
  induction m with
  | zero => simp [sumAt]
  | succ m ih =>
    rw [List.range_succ, List.map_append, List.map_cons, List.map_nil, sumAt_snoc, ih]
    by_cases e : k = m
    · subst e; simp
    · by_cases h : k < m
      · rw [if_pos h, if_neg (by simp; omega), if_pos (by omega)]; omega
      · rw [if_neg h, if_neg (by simp; omega), if_neg (by omega)]; rfl
theorem upTo_bd {l : List Int} (hd : Demands l) {r n : Int} (hr : 1 ≤ r) (hn : needV l r ≤ n) {d : Int} (h : d ∈ l) : 1 ≤ cl d r ∧ cl d r ≤ n := by
  have h1 := hd d h
  have h2 := (cl_bd h1.1 hr).1
  have h3 := needV_ge hd hr h
  omega
theorem needTo_bd {l : List Int} (hd : Demands l) {r n : Int} (hr : 1 ≤ r) (hn : needV l r ≤ n) (k : Nat) : needV (l.take k) r ≤ n ∧ 0 ≤ needV (l.take k) r := by
  have h1 := needV_bd (xs := l.take k) (fun d h => hd d (List.mem_of_mem_take h)) hr
  have h2 := needV_bd (xs := l.drop k) (fun d h => hd d (List.mem_of_mem_drop h)) hr
  have e : needV l r = needV (l.take k) r + needV (l.drop k) r := by
    unfold needV
    rw [← List.sum_append, ← List.map_append, List.take_append_drop]
  omega
/-- The form of one plate with all jobs: no error, and enough of each. -/
theorem topPlate {l : List Int} {n : Int} (h1 : 1 ≤ l.length) (h12 : l.length ≤ 12) (hd : Demands l) (hs : (l.length : Int) ≤ n) (hn : n ≤ 64) :
    surErr l [⟨jl l.length, allotV l (leastV l n), leastV l n⟩] = 0 ∧ IsLeast l n (leastV l n) ∧ leastV l n ≤ 1048576 := by
  obtain ⟨hL, hM⟩ := leastV_isLeast hd hs
  refine ⟨?_, hL, hM⟩
  obtain ⟨r, hr⟩ : ∃ r, r = leastV l n := ⟨_, rfl⟩
  rw [← hr] at hL hM ⊢
  obtain ⟨r1, r2, _⟩ := hL
  have hlen : (allotV l r).length = l.length := by simp [allotV]
  have hmem : ∀ i (hi : i < l.length), (allotV l r)[i]'(by rw [hlen]; exact hi) = cl l[i] r := fun i hi => by simp [allotV]
  have hpl : (Form.pairs ⟨jl l.length, allotV l r, r⟩).length = l.length := by rw [pairs_length (by rw [jl_len, hlen]), jl_len]
  have hpg : ∀ i (hi : i < l.length), (Form.pairs ⟨jl l.length, allotV l r, r⟩)[i]'(by rw [hpl]; exact hi) = ((i : Int), cl l[i] r) := fun i hi => by
    rw [pairs_get (by rw [hpl]; exact hi) (by rw [jl_len]; exact hi) (by rw [hlen]; exact hi)]
    simp [jl, allotV]
  have hf : formErr l.length ⟨jl l.length, allotV l r, r⟩ = 0 := by
    unfold formErr
    rw [if_neg (by rw [jl_len, hlen]; omega), if_neg (by simp only; omega), if_pos]
    rw [List.all_eq_true]
    intro p hp
    obtain ⟨i, hi, e⟩ := List.mem_iff_getElem.1 hp
    rw [hpl] at hi
    rw [hpg i hi] at e
    subst e
    have := upTo_bd hd r1 r2 (List.getElem_mem hi)
    exact decide_eq_true ⟨by simp only; omega, by simp only; omega, by simp only; omega, by simp only; omega⟩
  have hc : fchk l [⟨jl l.length, allotV l r, r⟩] = 0 := by
    unfold fchk
    rw [gchk_ok h1 h12 hd (by omega) (by omega), if_neg (by omega), if_neg (by simp)]
    unfold formsFirst
    rw [hf, if_neg (by omega)]
    rfl
  refine surErr_ok hc (shortB_true (fun k hk => ?_))
  have hi : allItems [⟨jl l.length, allotV l r, r⟩] = (List.range l.length).map (fun i : Nat => ((i : Int), cl (l.getD i 0) r * r)) := by
    unfold allItems
    rw [List.flatMap_cons, List.flatMap_nil, List.append_nil]
    unfold Form.items
    refine List.ext_getElem (by rw [List.length_map, hpl, List.length_map, List.length_range]) (fun i h1 h2 => ?_)
    rw [List.length_map, hpl] at h1
    rw [List.getElem_map, hpg i h1]
    simp [List.getD_eq_getElem?_getD, h1]
  rw [hi, sumAt_range, if_pos hk]
  have e : l.getD k 0 = l[k] := by simp [List.getD_eq_getElem?_getD, hk]
  rw [e]
  have := (cl_le (d := l[k]) (r := r) (c := cl l[k] r) r1).1 (Int.le_refl _)
  omega
/-- How the last check goes. -/
theorem topNeed {l : List Int} {n : Int} (h : IsLeast l n (leastV l n)) : leastV l n = 1 ∨ n < needV l (max (leastV l n - 1) 1) := by
  obtain ⟨h1, _, h3⟩ := h
  rcases h3 with h3 | h3
  · exact .inl h3
  · by_cases e : leastV l n = 1
    · exact .inl e
    · rw [Int.max_eq_left (by omega)]; exact .inr h3
end Go.Proofs.Ytmfmpmemdplloaa
