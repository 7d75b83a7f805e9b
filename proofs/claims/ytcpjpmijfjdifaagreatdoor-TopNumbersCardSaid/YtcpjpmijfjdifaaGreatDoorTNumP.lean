/-
  Numbered copies on sheets, cut and stacked: the plain law. No program in sight. Own text.
-/
import Derived.Test.YtcpjpmijfjdifaaGreatDoorRemP
namespace Go.Proofs.YtcpjpmijfjdifaaGreatDoor
open Go.RowKit
set_option linter.unusedVariables false
def sheetsV (c p : Nat) : Nat := (c + p - 1) / p
def placeV (c S s q : Nat) : Nat := if q * S + s + 1 > c then 0 else q * S + s + 1
def rowS (c p S s : Nat) : List Int := (List.range p).map fun (q : Nat) => (placeV c S s q : Int)
def stackS (c p S n : Nat) : List (List Int) := (List.range n).map (rowS c p S)
theorem rowS_len (c p S s : Nat) : (rowS c p S s).length = p := by simp [rowS]
theorem rowS_get (c p S s q : Nat) (h : q < (rowS c p S s).length) : (rowS c p S s)[q] = (placeV c S s q : Int) := by simp [rowS]
theorem rowS_succ (c p S s : Nat) : rowS c (p + 1) S s = rowS c p S s ++ [(placeV c S s p : Int)] := by simp [rowS, List.range_succ]
theorem stackS_len (c p S n : Nat) : (stackS c p S n).length = n := by simp [stackS]
theorem stackS_get (c p S n s : Nat) (h : s < (stackS c p S n).length) : (stackS c p S n)[s] = rowS c p S s := by simp [stackS]
theorem stackS_succ (c p S n : Nat) : stackS c p S (n + 1) = stackS c p S n ++ [rowS c p S n] := by simp [stackS, List.range_succ]
theorem sheets_ge {c p : Nat} (h1 : 1 ≤ p) : c ≤ p * sheetsV c p := by
  unfold sheetsV
  have h := Nat.div_add_mod (c + p - 1) p
  have h2 := Nat.mod_lt (c + p - 1) (show 0 < p by omega)
  omega
theorem sheets_bd {c p : Nat} (h1 : 1 ≤ p) (h2 : 1 ≤ c) : 1 ≤ sheetsV c p ∧ sheetsV c p ≤ c := by
  unfold sheetsV
  have ha : p ≤ c + p - 1 := by omega
  refine ⟨(Nat.one_le_div_iff (by omega)).2 ha, ?_⟩
  have h3 : c + p - 1 ≤ p * c := by
    have h4 : p * c = (p - 1) * c + c := by
      obtain ⟨q, rfl⟩ : ∃ q, p = q + 1 := ⟨p - 1, by omega⟩
      rw [Nat.add_sub_cancel, Nat.add_mul, Nat.one_mul]
    have h5 : p - 1 ≤ (p - 1) * c := Nat.le_mul_of_pos_right _ (by omega)
    omega
  calc (c + p - 1) / p ≤ (p * c) / p := Nat.div_le_div_right h3
    _ = c := Nat.mul_div_cancel_left _ (by omega)
/-! ### The run -/
def zeroRow (c : Nat) : List Pt := List.replicate c ⟨0, false⟩
def twoFs (c : Nat) : List (List Pt) := [numRow c fun _ => false, zeroRow c]
theorem twoFs_ok {c : Nat} (h : c ≤ 512) : FeedOk (twoFs c) := by
  refine ⟨by simp [twoFs], by simp [twoFs], fun l hl => ?_⟩
  simp only [twoFs, List.mem_cons, List.not_mem_nil, or_false] at hl
  rcases hl with rfl | rfl
  · exact numRow_ok c _ h
  · refine ⟨by simp [zeroRow]; exact h, fun x hx => ?_, ?_⟩
    · obtain ⟨_, rfl⟩ := List.mem_replicate.1 hx
      constructor <;> decide
    · unfold zeroRow
      rw [List.pairwise_replicate]
      right
      intro h0
      exact absurd rfl h0
theorem two_at0 {c i : Nat} (h : i < c) : ptAt (twoFs c) 0 i = ⟨(i : Int) + 1, false⟩ := by
  have h1 : i < (numRow c fun _ => false).length := by rw [numRow_len]; exact h
  show (numRow c fun _ => false).getD i ⟨0, false⟩ = _
  rw [List.getD_eq_getElem?_getD, List.getElem?_eq_getElem h1, numRow_get]
  rfl
theorem two_at1 {c i : Nat} (h : i < c) : ptAt (twoFs c) 1 i = ⟨0, false⟩ := by
  have h1 : i < (zeroRow c).length := by simp [zeroRow]; exact h
  show (zeroRow c).getD i ⟨0, false⟩ = _
  rw [List.getD_eq_getElem?_getD, List.getElem?_eq_getElem h1]
  simp [zeroRow]
theorem two_ln (c k : Nat) (h : k < 2) : ln (twoFs c) k = c := by
  match k, h with
  | 0, _ => exact numRow_len c _
  | 1, _ => show (zeroRow c).length = c; simp [zeroRow]
theorem two_range (f : Nat → Bool) : (List.range 2).any f = (f 0 || f 1) := by
  rw [show List.range 2 = [0, 1] from rfl]
  simp
theorem two_empty (c i : Nat) : hasEmpty (twoFs c) (fun _ => i) = (i == c) := by
  unfold hasEmpty
  rw [show (twoFs c).length = 2 from rfl, two_range, two_ln c 0 (by omega), two_ln c 1 (by omega)]
  simp
theorem two_most {c i : Nat} (h : i < c) : mostV (twoFs c) (fun _ => i) = (i : Int) + 1 := by
  unfold mostV
  rw [show (twoFs c).length = 0 + 1 + 1 from rfl, mostTo_succ, mostTo_succ]
  unfold cp
  rw [two_at0 h, two_at1 h]
  show max (max 0 ((i : Int) + 1)) 0 = _
  omega
theorem two_lag {c i : Nat} (h : i < c) : anyLag (twoFs c) (fun _ => i) = false := by
  unfold anyLag
  rw [show (twoFs c).length = 2 from rfl, two_range, two_most h]
  unfold lag cp
  rw [two_at0 h, two_at1 h]
  simp
theorem two_fine {c i : Nat} (h : i < c) (k : Nat) : fineV (twoFs c) [] k (fun _ => i) = true := by
  unfold fineV
  rw [show (twoFs c).length = 2 from rfl, show List.range 2 = [0, 1] from rfl]
  unfold sp
  simp only [List.all_cons, List.all_nil, two_at0 h, two_at1 h]
  rfl
def pairs (i : Nat) : List (List Int) := (List.range i).map fun (j : Nat) => [(j : Int), (j : Int)]
theorem upTo_succ (i : Nat) : upTo (i + 1) = upTo i ++ [(i : Int) + 1] := by simp [upTo, List.range_succ]
theorem two_runs (c : Nat) : ∀ (d i : Nat), i + d = c → Runs (twoFs c) [] i (fun _ => i) (upTo i) (pairs i) c (fun _ => c) (upTo c) (pairs c)
  | 0, i, h => by
    obtain rfl : i = c := by omega
    exact .stop _ _ _ _ _ (.stop _ (by rw [two_empty]; simp))
  | d + 1, i, h => by
    have hi : i < c := by omega
    have h1 := two_runs c d (i + 1) (by omega)
    have ha : Align (twoFs c) (fun _ => i) (some ((i : Int) + 1)) (fun _ => i) := by
      rw [← two_most hi]
      exact .same _ (by rw [two_empty]; simp; omega) (two_lag hi)
    have hp : pairs (i + 1) = pairs i ++ [usedV (twoFs c) (fun _ => i)] := by
      unfold pairs
      rw [List.range_succ, List.map_append]
      rfl
    rw [upTo_succ, hp] at h1
    exact .good i c _ _ _ _ _ _ _ _ ha (two_fine hi i) h1
theorem two_done {c : Nat} (h : c ≤ 512) {c' : Nat} {a : Nat → Nat} {g : List Int} {p : List (List Int)} (hr : Runs (twoFs c) [] 0 (fun _ => 0) [] [] c' a g p) : g = upTo c ∧ (∀ k, a k = c) ∧ finX (twoFs c) g a 0 = [] := by
  obtain ⟨rfl, rfl, rfl, rfl⟩ := hr.det (two_runs c c 0 (by omega))
  refine ⟨rfl, fun _ => rfl, (missing_is _ _).unique ⟨List.Pairwise.nil, fun x => ?_⟩⟩
  constructor
  · intro h; cases h
  · rintro ⟨h0, hn, l, hl, y, hy, e⟩
    exfalso
    simp only [twoFs, List.mem_cons, List.not_mem_nil, or_false] at hl
    rcases hl with rfl | rfl
    · simp only [numRow, List.mem_map, List.mem_range] at hy
      obtain ⟨j, hj, rfl⟩ := hy
      refine hn (upTo_mem.2 ?_)
      have e' : (j : Int) + 1 = x := e
      omega
    · obtain ⟨_, rfl⟩ := List.mem_replicate.1 hy
      exact h0 e.symm
end Go.Proofs.YtcpjpmijfjdifaaGreatDoor
