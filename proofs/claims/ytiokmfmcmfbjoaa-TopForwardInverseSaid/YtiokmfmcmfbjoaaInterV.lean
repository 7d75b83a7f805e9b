/-
  Simplex interpolation: plain laws. No program in sight. Own text.
-/
import Derived.Test.YtiokmfmcmfbjoaaGridAt
import Derived.Test.YtiokmfmcmfbjoaaSortL
namespace Go.Proofs.Ytiokmfmcmfbjoaa
open Go.RowKit
set_option linter.unusedVariables false
def bump (c : Nat → Int) (a : Nat) : Nat → Int := fun i => if i = a then c i + 1 else c i
/-- The interpolated value times the step, from an axis on. -/
def rawGo (V : (Nat → Int) → Int) (part : Nat → Int) : List Nat → (Nat → Int) → Int → Int
  | [], c, wt => if 0 < wt then wt * V c else 0
  | a :: r, c, wt => (if 0 < wt - part a then (wt - part a) * V c else 0) + (if part a = 0 then 0 else rawGo V part r (bump c a) (part a))
theorem scaled_bd {k lo v hi : Int} (hk : 0 ≤ k) (h1 : lo ≤ v) (h2 : v ≤ hi) : k * lo ≤ (if 0 < k then k * v else 0) ∧ (if 0 < k then k * v else 0) ≤ k * hi := by
  by_cases h : 0 < k
  · rw [if_pos h]
    exact ⟨Int.mul_le_mul_of_nonneg_left h1 hk, Int.mul_le_mul_of_nonneg_left h2 hk⟩
  · rw [if_neg h]
    obtain rfl : k = 0 := by omega
    simp
/-- The nodes that can be reached from c by the axes. -/
def Reach (part : Nat → Int) (axes : List Nat) (c c' : Nat → Int) : Prop := ∀ i, (i ∉ axes → c' i = c i) ∧ (i ∈ axes → c' i = c i ∨ (c' i = c i + 1 ∧ part i ≠ 0))
theorem rawGo_bd {V : (Nat → Int) → Int} {part : Nat → Int} {lo hi : Int} : ∀ (axes : List Nat) (c : Nat → Int) (wt : Int), 0 ≤ wt → axes.Nodup → (∀ a ∈ axes, 0 ≤ part a ∧ part a ≤ wt) → axes.Pairwise (fun a b => part b ≤ part a) →
    (∀ c', Reach part axes c c' → lo ≤ V c' ∧ V c' ≤ hi) → wt * lo ≤ rawGo V part axes c wt ∧ rawGo V part axes c wt ≤ wt * hi := by
  intro axes
  induction axes with
  | nil =>
    intro c wt hw _ _ _ hV
    obtain ⟨h1, h2⟩ := hV c (fun i => ⟨fun _ => rfl, fun h => by cases h⟩)
    exact scaled_bd hw h1 h2
  | cons a r ih =>
    intro c wt hw hnd hp hso hV
    obtain ⟨p0, p1⟩ := hp a (by simp)
    obtain ⟨h1, h2⟩ := hV c (fun i => ⟨fun _ => rfl, fun _ => .inl rfl⟩)
    have hs := scaled_bd (k := wt - part a) (by omega) h1 h2
    rw [List.nodup_cons] at hnd
    rw [List.pairwise_cons] at hso
    unfold rawGo
    have e1 : (wt - part a) * lo = wt * lo - part a * lo := Int.sub_mul _ _ _
    have e2 : (wt - part a) * hi = wt * hi - part a * hi := Int.sub_mul _ _ _
    by_cases hz : part a = 0
    · rw [if_pos hz]
      have z1 : part a * lo = 0 := by rw [hz, Int.zero_mul]
      have z2 : part a * hi = 0 := by rw [hz, Int.zero_mul]
      omega
    · rw [if_neg hz]
      have hr := ih (bump c a) (part a) p0 hnd.2 (fun b hb => ⟨(hp b (by simp [hb])).1, hso.1 b hb⟩) hso.2 (fun c' hc' => hV c' (fun i => ⟨fun hi => ?_, fun hi => ?_⟩))
      · omega
      · have hia : i ≠ a := fun e => hi (by simp [e])
        have := (hc' i).1 (fun h => hi (by simp [h]))
        rw [this]
        exact if_neg hia
      · by_cases e : i = a
        · subst e
          have := (hc' i).1 hnd.1
          right
          rw [this]
          exact ⟨if_pos rfl, hz⟩
        · have hir : i ∈ r := by
            rcases List.mem_cons.1 hi with h | h
            · exact absurd h e
            · exact h
          have h3 := (hc' i).2 hir
          have hb : bump c a i = c i := if_neg e
          rw [hb] at h3
          exact h3
/-! ### The order of the axes -/
def gtI (x y : Int) : Bool := decide (y < x)
theorem insL_desc (x : Int) (L : List Int) (h : L.Pairwise (fun a b => b ≤ a)) : (insL gtI x L).Pairwise (fun a b => b ≤ a) := by
  have key : ∀ j, j ≤ L.length → (∀ y ∈ L.drop j, y ≤ x) → (∀ y ∈ L.take (slot gtI x L j), x ≤ y) ∧ ∀ y ∈ L.drop (slot gtI x L j), y ≤ x := by
    intro j
    induction j with
    | zero =>
      intro _ h2
      exact ⟨fun y hy => by simp [slot] at hy, h2⟩
    | succ j ih =>
      intro hj h2
      have e : L.getD j default = L[j] := getD_at (by omega)
      unfold slot
      rw [e]
      by_cases hc : L[j] < x
      · rw [if_pos (show gtI x L[j] = true from decide_eq_true hc)]
        refine ih (by omega) fun y hy => ?_
        rw [List.drop_eq_getElem_cons (by omega : j < L.length)] at hy
        rcases List.mem_cons.1 hy with rfl | hy
        · omega
        · exact h2 y hy
      · rw [if_neg (by simpa [gtI] using hc)]
        refine ⟨fun y hy => ?_, h2⟩
        rw [List.take_succ_eq_append_getElem (by omega : j < L.length)] at hy
        rcases List.mem_append.1 hy with hy | hy
        · have h3 : L.Pairwise (fun a b => b ≤ a) := h
          rw [← List.take_append_drop j L, List.pairwise_append] at h3
          have := h3.2.2 y hy L[j] (by rw [List.drop_eq_getElem_cons (by omega : j < L.length)]; exact List.mem_cons_self)
          omega
        · simp only [List.mem_singleton] at hy
          omega
  obtain ⟨k1, k2⟩ := key L.length (Nat.le_refl _) (by simp)
  unfold insL insAt
  generalize slot gtI x L L.length = q at *
  have h3 := h
  rw [← List.take_append_drop q L, List.pairwise_append] at h3
  rw [List.pairwise_append]
  refine ⟨h3.1, List.pairwise_cons.2 ⟨fun y hy => k2 y hy, h3.2.1⟩, fun a ha b hb => ?_⟩
  rcases List.mem_cons.1 hb with rfl | hb
  · exact k1 a ha
  · exact h3.2.2 a ha b hb
theorem sortTo_desc (xs : List Int) : ∀ k, (sortTo gtI xs k).Pairwise (fun a b => b ≤ a) := by
  intro k
  induction k with
  | zero => exact List.Pairwise.nil
  | succ k ih => exact insL_desc _ _ ih
def ltP (part : Nat → Int) (i j : Nat) : Bool := decide (part j < part i)
/-- The first k axes by decreasing part. -/
def axesTo (part : Nat → Int) (d k : Nat) : List Nat := sortTo (ltP part) (List.range d) k
theorem axesTo_len (part : Nat → Int) (d k : Nat) : (axesTo part d k).length = k := sortTo_len _ _ _
theorem axesTo_perm (part : Nat → Int) {d k : Nat} (hk : k ≤ d) : (axesTo part d k).Perm (List.range k) := by
  have h := sortTo_perm (ltP part) (List.range d) k (by rw [List.length_range]; exact hk)
  have e : (List.range d).take k = List.range k := by
    refine List.ext_getElem (by rw [List.length_take, List.length_range, List.length_range]; omega) (fun i h1 h2 => ?_)
    rw [List.getElem_take, List.getElem_range, List.getElem_range]
  rwa [e] at h
theorem axesTo_mem (part : Nat → Int) {d k i : Nat} (hk : k ≤ d) : i ∈ axesTo part d k ↔ i < k := by
  rw [(axesTo_perm part hk).mem_iff, List.mem_range]
theorem axesTo_nodup (part : Nat → Int) {d k : Nat} (hk : k ≤ d) : (axesTo part d k).Nodup := (axesTo_perm part hk).nodup_iff.2 List.nodup_range
theorem axesTo_desc (part : Nat → Int) {d k : Nat} (hk : k ≤ d) : (axesTo part d k).Pairwise (fun a b => part b ≤ part a) := by
  have h := sortTo_map (lt := ltP part) (lt' := gtI) (f := part) (fun x y => rfl) (List.range d) k (by rw [List.length_range]; exact hk)
  have h2 := sortTo_desc ((List.range d).map part) k
  rw [← h, List.pairwise_map] at h2
  exact h2
theorem axesTo_succ (part : Nat → Int) {d k : Nat} (hk : k < d) : axesTo part d (k + 1) = insL (ltP part) k (axesTo part d k) := by
  show insL (ltP part) ((List.range d).getD k default) _ = _
  rw [getD_at (by rw [List.length_range]; exact hk), List.getElem_range]
  rfl
/-! ### The value -/
def stepOf (size : Int) : Int := 65280 / (size - 1)
def cellV (S : Int) (xs : List Int) (i : Nat) : Int := xs.getD i 0 / S
def partOf (S : Int) (xs : List Int) (i : Nat) : Int := xs.getD i 0 % S
/-- Value o at a node. -/
def valAt (P : Prof) (d o : Nat) (c : Nat → Int) : Int := P.vals.getD ((nodeV P.size ((List.range d).map c) * P.out).toNat + o) 0
def rawV (P : Prof) (xs : List Int) (o : Nat) : Int := rawGo (valAt P xs.length o) (partOf (stepOf P.size) xs) (axesTo (partOf (stepOf P.size) xs) xs.length xs.length) (cellV (stepOf P.size) xs) (stepOf P.size)
def quickV (P : Prof) (xs : List Int) (o : Nat) : Int := nearV (rawV P xs o) (stepOf P.size)
/-- The nodes of a box. -/
def InBox (S : Int) (low high : List Int) (d : Nat) (c : Nat → Int) : Prop := ∀ i, i < d → low.getD i 0 / S ≤ c i ∧ c i ≤ (high.getD i 0 + S - 1) / S
theorem cell_up {S x h : Int} (hS : 0 < S) (hx : x ≤ h) : x / S ≤ (h + S - 1) / S ∧ (x % S ≠ 0 → x / S + 1 ≤ (h + S - 1) / S) := by
  constructor
  · exact Int.ediv_le_ediv hS (by omega)
  · intro hne
    have h1 := Int.mul_ediv_add_emod x S
    have h2 := Int.emod_nonneg x (show S ≠ 0 by omega)
    rw [Int.le_ediv_iff_mul_le hS, Int.add_mul, Int.one_mul, Int.mul_comm]
    omega
/-- What is interpolated lies between the bounds of the box's nodes. -/
theorem quickV_bd {P : Prof} {xs low high : List Int} {o : Nat} {lo hi : Int} (hS : 0 < stepOf P.size) (hx : ∀ i, i < xs.length → low.getD i 0 ≤ xs.getD i 0 ∧ xs.getD i 0 ≤ high.getD i 0)
    (hV : ∀ c, InBox (stepOf P.size) low high xs.length c → lo ≤ valAt P xs.length o c ∧ valAt P xs.length o c ≤ hi) : lo ≤ quickV P xs o ∧ quickV P xs o ≤ hi := by
  have hr := rawGo_bd (V := valAt P xs.length o) (part := partOf (stepOf P.size) xs) (lo := lo) (hi := hi) (axesTo (partOf (stepOf P.size) xs) xs.length xs.length) (cellV (stepOf P.size) xs) (stepOf P.size) (by omega)
    (axesTo_nodup _ (Nat.le_refl _)) (fun a _ => ⟨Int.emod_nonneg _ (by omega), Int.le_of_lt (Int.emod_lt_of_pos _ hS)⟩) (axesTo_desc _ (Nat.le_refl _))
    (fun c' hc' => hV c' (fun i hi => by
      have h1 := hx i hi
      have h2 := cell_up hS h1.2
      have h3 : low.getD i 0 / stepOf P.size ≤ xs.getD i 0 / stepOf P.size := Int.ediv_le_ediv hS h1.1
      have h4 := (hc' i).2 ((axesTo_mem _ (Nat.le_refl _)).2 hi)
      unfold cellV partOf at h4
      rcases h4 with h4 | ⟨h4, h5⟩
      · rw [h4]; exact ⟨h3, h2.1⟩
      · rw [h4]; exact ⟨by omega, h2.2 h5⟩))
  unfold quickV rawV
  exact ⟨le_nearV hS (by rw [Int.mul_comm]; exact hr.1), nearV_le hS (by rw [Int.mul_comm hi]; exact hr.2)⟩
end Go.Proofs.Ytiokmfmcmfbjoaa
