/-
  Decode on the rows of a plane of bars. Own text.
-/
import Derived.Test.YtcadgjhfdolejaaPlU
namespace Go.Proofs.Ytcadgjhfdolejaa
open Go.RowKit
set_option linter.unusedVariables false
/-- The bars of a row, from bar j on. -/
def barsL (p q : Nat → Nat) (j k : Nat) : List (Nat × Nat) := (List.range' j k).map fun i => (p i, q i)
theorem bars_mono {p q : Nat → Nat} {m : Nat} (h1 : ∀ j, j < m → p j < q j) (h2 : ∀ j, j + 1 < m → q j < p (j + 1)) (i : Nat) : ∀ j, i < j → j < m → q i < p j
  | 0, h, _ => by omega
  | j + 1, h, hj => by
    by_cases e : i = j
    · rw [e]; exact h2 j hj
    · have e1 := bars_mono h1 h2 i j (by omega) (by omega)
      have e2 := h1 j (by omega)
      have e3 := h2 j hj
      omega
theorem barsL_runs {r : Nat → Bool} {W m : Nat} {p q : Nat → Nat} (h1 : ∀ j, j < m → p j < q j) (hW : ∀ j, j < m → q j ≤ W) (h2 : ∀ j, j + 1 < m → q j < p (j + 1))
    (h3 : ∀ x, x < W → (r x = true ↔ ∃ j, j < m ∧ p j ≤ x ∧ x < q j)) : ∀ (k j x : Nat), j + k = m → (∀ i, i < j → q i ≤ x) → (j < m → x ≤ p j) → Runs r W x (barsL p q j k)
  | 0, j, x, hj, hb, _ => .done fun i i1 i2 => by
    cases e : r i with
    | false => rfl
    | true =>
      obtain ⟨j', a1, a2, a3⟩ := (h3 i i2).1 e
      have := hb j' (by omega)
      omega
  | k + 1, j, x, hj, hb, ha => by
    have e : barsL p q j (k + 1) = (p j, q j) :: barsL p q (j + 1) k := by unfold barsL; rw [List.range'_succ, List.map_cons]
    rw [e]
    have hp := h1 j (by omega)
    have hw := hW j (by omega)
    refine .run (ha (by omega)) hp hw (fun i i1 i2 => ?_) (fun i i1 i2 => (h3 i (by omega)).2 ⟨j, by omega, i1, i2⟩) (fun hl => ?_) (barsL_runs h1 hW h2 h3 k (j + 1) (q j) (by omega) (fun i hi => ?_) (fun hi => Nat.le_of_lt (h2 j hi)))
    · cases e : r i with
      | false => rfl
      | true =>
        obtain ⟨j', a1, a2, a3⟩ := (h3 i (by omega)).1 e
        by_cases g : j' < j
        · have := hb j' g; omega
        · by_cases g2 : j' = j
          · rw [g2] at a2; omega
          · have := bars_mono h1 h2 j j' (by omega) a1; omega
    · cases e : r (q j) with
      | false => rfl
      | true =>
        obtain ⟨j', a1, a2, a3⟩ := (h3 _ hl).1 e
        by_cases g : j' < j
        · have := bars_mono h1 h2 j' j g (by omega); omega
        · by_cases g2 : j' = j
          · rw [g2] at a3; omega
          · have := bars_mono h1 h2 j j' (by omega) a1; omega
    · by_cases g : i = j
      · rw [g]; exact Nat.le_refl _
      · have := bars_mono h1 h2 i j (by omega) (by omega); omega
/-- Widths of bars and of what lies between them. -/
def wdV (p q : Nat → Nat) (i : Nat) : Int := if i % 2 = 0 then (q (i / 2) : Int) - (p (i / 2) : Int) else (p (i / 2 + 1) : Int) - (q (i / 2) : Int)
theorem barsL_stW {p q : Nat → Nat} {M : Nat} (h1 : ∀ j, j < M → p j < q j) (hW : ∀ j, j < M → q j ≤ 1024) (h2 : ∀ j, j + 1 < M → q j < p (j + 1)) : ∀ m, m < M → stW (barsL p q 0 (m + 1)) = ((List.range (2 * m + 1)).map (wdV p q), (q m : Int))
  | 0, h => by
    have a1 := h1 0 h
    have a2 := hW 0 h
    have e1 : barsL p q 0 (0 + 1) = [(p 0, q 0)] := rfl
    rw [e1]
    have e2 : stW [(p 0, q 0)] = ([IntKind.i64.wrap ((q 0 : Int) - (p 0 : Int))], (q 0 : Int)) := rfl
    have e3 : IntKind.i64.wrap ((q 0 : Int) - (p 0 : Int)) = (q 0 : Int) - (p 0 : Int) := IntWalk.i64_in _ (by omega)
    rw [e2, e3]
    rfl
  | m + 1, h => by
    have ih := barsL_stW h1 hW h2 m (by omega)
    have a1 := h1 (m + 1) h
    have a2 := hW (m + 1) h
    have a3 := h2 m h
    have e1 : barsL p q 0 (m + 1 + 1) = barsL p q 0 (m + 1) ++ [(p (m + 1), q (m + 1))] := by
      unfold barsL
      rw [List.range'_1_concat, List.map_append, Nat.zero_add]
      rfl
    rw [e1, stW_snoc, ih]
    unfold stepW
    dsimp only
    rw [if_pos (by omega)]
    have e3 : IntKind.i64.wrap ((q (m + 1) : Int) - (p (m + 1) : Int)) = (q (m + 1) : Int) - (p (m + 1) : Int) := IntWalk.i64_in _ (by omega)
    have e4 : IntKind.i64.wrap ((p (m + 1) : Int) - (q m : Int)) = (p (m + 1) : Int) - (q m : Int) := IntWalk.i64_in _ (by omega)
    rw [e3, e4]
    have e5 : wdV p q (2 * m + 1) = (p (m + 1) : Int) - (q m : Int) := by
      unfold wdV
      rw [if_neg (by omega), show (2 * m + 1) / 2 = m by omega]
    have e6 : wdV p q (2 * m + 2) = (q (m + 1) : Int) - (p (m + 1) : Int) := by
      unfold wdV
      rw [if_pos (by omega), show (2 * m + 2) / 2 = m + 1 by omega]
    have e7 : (List.range (2 * (m + 1) + 1)).map (wdV p q) = ((List.range (2 * m + 1)).map (wdV p q) ++ [wdV p q (2 * m + 1)]) ++ [wdV p q (2 * m + 2)] := by
      rw [show 2 * (m + 1) + 1 = 2 * m + 1 + 1 + 1 by omega, List.range_succ (n := 2 * m + 1 + 1), List.range_succ (n := 2 * m + 1), List.map_append, List.map_append]
      rfl
    rw [e7, e5, e6]
/-- The edges of a number's bars: straight or from the other side. -/
structure EdgeOk (l : List UInt8) (E : Nat → Int) (n c u W : Nat) : Prop where
  len : n = (widV l).length
  c2 : 2 ≤ c
  u3 : 3 ≤ u
  dir : (∀ k, k < n → E (k + 1) - E k = (c * u : Nat) * wAt l k) ∨ ∀ k, k < n → E (k + 1) - E k = (c * u : Nat) * wAt l (n - 1 - k)
  lo : 2 * (c : Int) ≤ E 0
  hi : E n + 2 * (c : Int) ≤ W
  wid : W ≤ 1024
theorem EdgeOk.odd {l : List UInt8} {E : Nat → Int} {n c u W : Nat} (h : EdgeOk l E n c u W) : n % 2 = 1 ∧ 1 ≤ n := by
  have := h.len
  rw [widV_len] at this
  omega
theorem EdgeOk.gap {l : List UInt8} (hl : DigL l) {E : Nat → Int} {n c u W : Nat} (h : EdgeOk l E n c u W) : Gap E n (3 * (c : Int)) := fun k hk => by
  have hm : ∀ x : Int, 1 ≤ x → 3 * (c : Int) ≤ (c * u : Nat) * x := fun x hx => by
    have e1 : c * 3 ≤ c * u := Nat.mul_le_mul_left c h.u3
    have e2 : ((c * u : Nat) : Int) * 1 ≤ (c * u : Nat) * x := Int.mul_le_mul_of_nonneg_left hx (by omega)
    omega
  have ho := h.odd
  rcases h.dir with e | e
  · rw [e k hk]
    exact hm _ (wAt_bd l hl k (by rw [← h.len]; exact hk)).1
  · rw [e k hk]
    exact hm _ (wAt_bd l hl _ (by rw [← h.len]; omega)).1
theorem short_len {r : Nat → Bool} {W a b : Nat} : ∀ (zs : List (Nat × Nat)) (x : Nat), Runs r W x zs → (∀ i, x ≤ i → i < W → r i = true → a ≤ i ∧ i < b) → 2 * zs.length + max x a ≤ b + 1 ∨ zs = []
  | [], x, h, hr => .inr rfl
  | z :: zs, x, h, hr => by
    left
    cases h with
    | run h1 h2 h3 h4 h5 h6 h7 =>
      rename_i a' b'
      have g1 := hr a' h1 (by omega) (h5 a' (Nat.le_refl _) h2)
      have g2 := hr (b' - 1) (by omega) (by omega) (h5 (b' - 1) (by omega) (by omega))
      rw [List.length_cons]
      by_cases e : b' < W
      · have g3 := short_len zs (b' + 1) (h7.skip e (h6 e)) (fun i i1 i2 => hr i (by omega) i2)
        rcases g3 with g3 | g3
        · omega
        · rw [g3, List.length_nil]; omega
      · rw [h7.end_nil (by omega), List.length_nil]; omega
/-- A row with few bars is too short. -/
theorem row_short {res : List UInt8} {r : Nat → Bool} {W a : Nat} (hr : ∀ i, i < W → r i = true → a ≤ i ∧ i < a + 22) :
    ∃ zs, Runs r W 0 zs ∧ ∀ (w : World) (base : Nat) (v : Value), Own w base 3 1 encInt v (stW zs).1 → Calls Try.prog 14 #[v] w (RetRow false res w) := by
  obtain ⟨zs, hz⟩ := runs_exist r W W 0 (by omega)
  refine ⟨zs, hz, fun w base v ho => ?_⟩
  have h1 := short_len zs 0 hz (fun i _ i2 i3 => hr i i2 i3)
  have h2 := stW_len zs
  obtain ⟨oa, cap, rfl, -⟩ := ho.isSlc
  have h3 : (stW zs).1.length < 25 := by
    rcases h1 with h1 | h1
    · omega
    · subst h1; show 0 < 25; decide
  refine (dec_short oa _ cap h3 w).mono ?_
  rintro e w' ⟨rfl, rfl⟩
  exact ⟨rfl, Below.refl _ _⟩
/-- A row of the number's bars is read. -/
theorem row_good {l : List UInt8} (hl : DigL l) (h1 : 1 ≤ l.length) (h20 : l.length ≤ 20) {E : Nat → Int} {n c u W : Nat} (hE : EdgeOk l E n c u W) {D : Int} (d1 : -1 ≤ D) (d2 : D ≤ c) {r : Nat → Bool}
    (hr : ∀ x : Nat, r x = true ↔ OnE E n D x) :
    ∃ zs, Runs r W 0 zs ∧ ∀ (w : World) (base : Nat) (v : Value), Own w base 3 1 encInt v (stW zs).1 → Calls Try.prog 14 #[v] w (RetRow true l w) := by
  have hg := hE.gap hl
  have ho := hE.odd
  have hc := hE.c2
  have hlo := hE.lo
  have hhi := hE.hi
  have hW := hE.wid
  have hm := hg.mono (by omega)
  obtain ⟨m, hmn⟩ : ∃ m, n = 2 * m + 1 := ⟨n / 2, by omega⟩
  have hEb : ∀ k, k ≤ n → E 0 ≤ E k ∧ E k ≤ E n := fun k hk => ⟨hm 0 k (by omega) hk, hm k n hk (Nat.le_refl _)⟩
  obtain ⟨p, hp⟩ : ∃ p : Nat → Nat, p = fun j => (E (2 * j) - D).toNat := ⟨_, rfl⟩
  obtain ⟨q, hq⟩ : ∃ q : Nat → Nat, q = fun j => (E (2 * j + 1) + D).toNat := ⟨_, rfl⟩
  have hpv : ∀ j, j < m + 1 → (p j : Int) = E (2 * j) - D := fun j hj => by
    have := hEb (2 * j) (by omega)
    rw [hp]
    exact Int.toNat_of_nonneg (by omega)
  have hqv : ∀ j, j < m + 1 → (q j : Int) = E (2 * j + 1) + D := fun j hj => by
    have := hEb (2 * j + 1) (by omega)
    rw [hq]
    exact Int.toNat_of_nonneg (by omega)
  have b1 : ∀ j, j < m + 1 → p j < q j := fun j hj => by
    have a1 := hpv j hj
    have a2 := hqv j hj
    have a3 := hg (2 * j) (by omega)
    omega
  have bW : ∀ j, j < m + 1 → q j ≤ W := fun j hj => by
    have a2 := hqv j hj
    have := hEb (2 * j + 1) (by omega)
    omega
  have b2 : ∀ j, j + 1 < m + 1 → q j < p (j + 1) := fun j hj => by
    have a1 := hpv (j + 1) hj
    have a2 := hqv j (by omega)
    have a3 := hg (2 * j + 1) (by omega)
    rw [show 2 * (j + 1) = 2 * j + 1 + 1 by omega] at a1
    omega
  have hz := barsL_runs (r := r) (W := W) b1 bW b2 (fun x hx => by
    rw [hr]
    constructor
    · rintro ⟨k, k1, k2, k3, k4⟩
      have e : k = 2 * (k / 2) := by omega
      have a1 := hpv (k / 2) (by omega)
      have a2 := hqv (k / 2) (by omega)
      rw [← e] at a1 a2
      exact ⟨k / 2, by omega, by omega, by omega⟩
    · rintro ⟨j, j1, j2, j3⟩
      have a1 := hpv j j1
      have a2 := hqv j j1
      exact ⟨2 * j, by omega, by omega, by omega, by omega⟩) (m + 1) 0 0 (by omega) (fun i hi => by omega) (fun _ => Nat.zero_le _)
  refine ⟨_, hz, fun w base v hown => ?_⟩
  rw [barsL_stW b1 (fun j hj => Nat.le_trans (bW j hj) hW) b2 m (by omega), ← hmn] at hown
  have hwd : ∀ i, i < n → wdV p q i = E (i + 1) - E i + (if i % 2 = 0 then 2 * D else -(2 * D)) ∧ 1 ≤ wdV p q i ∧ wdV p q i ≤ 1024 := fun i hi => by
    unfold wdV
    by_cases e : i % 2 = 0
    · rw [if_pos e, if_pos e]
      have a1 := hpv (i / 2) (by omega)
      have a2 := hqv (i / 2) (by omega)
      have a3 := b1 (i / 2) (by omega)
      have a4 := bW (i / 2) (by omega)
      rw [show 2 * (i / 2) = i by omega] at a1 a2
      omega
    · rw [if_neg e, if_neg e]
      have a1 := hpv (i / 2 + 1) (by omega)
      have a2 := hqv (i / 2) (by omega)
      have a3 := b2 (i / 2) (by omega)
      have a4 := b1 (i / 2 + 1) (by omega)
      have a5 := bW (i / 2 + 1) (by omega)
      rw [show 2 * (i / 2 + 1) = i + 1 by omega] at a1
      rw [show 2 * (i / 2) + 1 = i by omega] at a2
      omega
  obtain ⟨xs, hxs⟩ : ∃ xs, xs = (List.range n).map (wdV p q) := ⟨_, rfl⟩
  have hxl : xs.length = n := by rw [hxs, List.length_map, List.length_range]
  have hxg : ∀ i, i < n → xs.getD i 0 = wdV p q i := fun i hi => by
    rw [hxs, List.getD_eq_getElem?_getD, List.getElem?_map, List.getElem?_range hi]
    rfl
  rw [← hxs] at hown
  dsimp only at hown
  obtain ⟨g, cap, rfl, hcap, -, -, hrow⟩ := NRow.own hown (by intro e; rw [e] at hxl; simp at hxl; omega)
  rw [hxl] at hcap hrow ⊢
  obtain ⟨us, hus⟩ : ∃ us : Nat → Nat, us = fun i => (((c * u : Nat) : Int) * wAt l i + (if i % 2 = 0 then 2 * D else -(2 * D))).toNat := ⟨_, rfl⟩
  have hrow2 : NRow w g 0 n (fun i => (((wdV p q i).toNat : Nat) : Int)) := fun i hi => by
    rw [hrow i hi]
    have := hwd i hi
    show some (Value.int .i64 (xs.getD i 0)) = some (Value.int .i64 (((wdV p q i).toNat : Nat) : Int))
    rw [hxg i hi, Int.toNat_of_nonneg (by omega)]
  have hcu : (1 : Int) ≤ (c * u : Nat) := by
    have := Nat.mul_le_mul hE.c2 hE.u3
    omega
  have hus9 : ∀ i, i < n → 1 ≤ ((c * u : Nat) : Int) * wAt l i + (if i % 2 = 0 then 2 * D else -(2 * D)) ∧ ((c * u : Nat) : Int) * wAt l i + (if i % 2 = 0 then 2 * D else -(2 * D)) ≤ 1024 := fun i hi => by
    rcases hE.dir with e | e
    · have h := hwd i hi
      rw [e i hi] at h
      omega
    · have h := hwd (n - 1 - i) (by omega)
      rw [e _ (by omega), show n - 1 - (n - 1 - i) = i by omega, show (n - 1 - i) % 2 = i % 2 by omega] at h
      omega
  have hu2 : (∀ i, i < n → (wdV p q i).toNat = us i) ∨ (∀ i, i < n → (wdV p q i).toNat = us (n - 1 - i)) := by
    rcases hE.dir with e | e
    · refine .inl fun i hi => ?_
      rw [(hwd i hi).1, e i hi, hus]
    · refine .inr fun i hi => ?_
      rw [(hwd i hi).1, e i hi, hus]
      dsimp only
      rw [show (n - 1 - i) % 2 = i % 2 by omega]
  have h := dec_good l hl h1 h20 (c * u : Nat) (2 * D) hcu n hE.len us (fun i hi => by rw [hus]; exact Int.toNat_of_nonneg (by have := hus9 i hi; omega)) (fun i hi => by have := hus9 i hi; rw [hus]; show 1 ≤ (_ : Int).toNat ∧ (_ : Int).toNat ≤ 1024; omega)
    (fun i => (wdV p q i).toNat) hu2 w g 0 cap hcap hrow2
  refine h.mono ?_
  rintro e w' h
  exact h
theorem anyB_of {good : Nat → Bool} {y : Nat} : ∀ {H : Nat}, y < H → good y = true → anyB good H = true
  | H + 1, h, hg => by
    show (anyB good H || good H) = true
    by_cases e : y = H
    · rw [← e, hg, Bool.or_true]
    · rw [anyB_of (show y < H by omega) hg, Bool.true_or]
theorem anyB_none : ∀ H : Nat, anyB (fun _ => false) H = false
  | 0 => rfl
  | H + 1 => by show (anyB _ H || false) = false; rw [anyB_none H]; rfl
/-- Rows along the bars. -/
theorem rows_good {l : List UInt8} (hl : DigL l) (h1 : 1 ≤ l.length) (h20 : l.length ≤ 20) {E : Nat → Int} {n c u W H : Nat} (hE : EdgeOk l E n c u W) {P : Plane} {A : Int} (hP : BarP E n c P A) (hA : 0 ≤ A + 1 ∧ A + 1 < H) :
    ∃ good, RowsOk P W H l good ∧ anyB good H = true := by
  refine ⟨fun y => @decide (∃ X, P X y = true) (Classical.propDecidable _), fun y hy => ?_, ?_⟩
  · by_cases e : ∃ X, P X y = true
    · dsimp only
      rw [@decide_eq_true _ (Classical.propDecidable _) e]
      rcases hP.row y with h | ⟨D, d1, d2, h⟩
      · obtain ⟨X, hX⟩ := e
        rw [h X] at hX
        cases hX
      · exact row_good hl h1 h20 hE d1 d2 (fun x => h x)
    · dsimp only
      rw [@decide_eq_false _ (Classical.propDecidable _) e]
      exact row_short (a := 0) fun i hi hr => absurd ⟨_, hr⟩ e
  · obtain ⟨D, d1, d2, h⟩ := hP.one
    refine anyB_of (y := (A + 1).toNat) (by omega) (@decide_eq_true _ (Classical.propDecidable _) ⟨E 0 + 1, ?_⟩)
    rw [Int.toNat_of_nonneg hA.1, h]
    have hg := hE.gap hl 0 (by have := hE.odd; omega)
    have hc := hE.c2
    exact ⟨0, by have := hE.odd; omega, rfl, by omega, by omega⟩
/-- Rows across the bars. -/
theorem rows_bad {res : List UInt8} {E : Nat → Int} {n c W H : Nat} {P : Plane} {A : Int} (hc : c ≤ 3) (hP : BarP E n c (swapP P) A) (hA : 0 ≤ A - c) : RowsOk P W H res (fun _ => false) := fun y hy =>
  row_short (a := (A - c).toNat) fun i hi hr => by
    have := hP.span y i hr
    omega
end Go.Proofs.Ytcadgjhfdolejaa
