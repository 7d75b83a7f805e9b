/-
  A camera's picture and its two tones, plain. Own text.
-/
import Derived.Test.YtcadgjhfdolejaaPlT
namespace Go.Proofs.Ytcadgjhfdolejaa
open Go.RowKit
set_option linter.unusedVariables false
/-- Dark places keep two places away from the edges. -/
def MarP (S : Plane) (W H : Nat) : Prop := ∀ X Y : Int, S X Y = true → 2 ≤ X ∧ X + 3 ≤ W ∧ 2 ≤ Y ∧ Y + 3 ≤ H
theorem MarP.off {S : Plane} {W H : Nat} (h : MarP S W H) (X Y : Int) (ho : ¬ (2 ≤ X ∧ X + 3 ≤ W ∧ 2 ≤ Y ∧ Y + 3 ≤ H)) : S X Y = false := by
  cases e : S X Y with
  | false => rfl
  | true => exact absurd (h X Y e) ho
theorem maj_mar {S : Plane} {W H : Nat} (h : MarP S W H) (X Y : Int) (ho : ¬ (1 ≤ X ∧ X + 2 ≤ W ∧ 1 ≤ Y ∧ Y + 2 ≤ H)) : nine S X Y = 0 := by
  unfold nine row3
  rw [h.off (X - 1) (Y - 1) (by omega), h.off X (Y - 1) (by omega), h.off (X + 1) (Y - 1) (by omega), h.off (X - 1) Y (by omega), h.off X Y (by omega), h.off (X + 1) Y (by omega), h.off (X - 1) (Y + 1) (by omega), h.off X (Y + 1) (by omega), h.off (X + 1) (Y + 1) (by omega)]
  rfl
theorem low_le {t : Nat → Nat} : ∀ {n i : Nat}, i < n → lowV t n ≤ t i ∧ t i ≤ highV t n
  | n + 1, i, h => by
    unfold lowV highV
    by_cases e : i = n
    · subst e; omega
    · have := low_le (t := t) (show i < n by omega)
      omega
theorem low_get (t : Nat → Nat) : ∀ n : Nat, (∃ i, i < n + 1 ∧ lowV t (n + 1) = t i) ∧ ∃ i, i < n + 1 ∧ highV t (n + 1) = t i
  | 0 => ⟨⟨0, by omega, by unfold lowV lowV; omega⟩, 0, by omega, by unfold highV highV; omega⟩
  | n + 1 => by
    obtain ⟨⟨i, h1, h2⟩, j, h3, h4⟩ := low_get t n
    constructor
    · by_cases e : lowV t (n + 1) ≤ t (n + 1)
      · refine ⟨i, by omega, ?_⟩
        rw [← h2]
        show min (lowV t (n + 1)) (t (n + 1)) = _
        omega
      · refine ⟨n + 1, by omega, ?_⟩
        show min (lowV t (n + 1)) (t (n + 1)) = _
        omega
    · by_cases e : t (n + 1) ≤ highV t (n + 1)
      · refine ⟨j, by omega, ?_⟩
        rw [← h4]
        show max (highV t (n + 1)) (t (n + 1)) = _
        omega
      · refine ⟨n + 1, by omega, ?_⟩
        show max (highV t (n + 1)) (t (n + 1)) = _
        omega
theorem low_all {t : Nat → Nat} {n : Nat} (hn : 0 < n) (p : Nat → Nat → Prop) (h : ∀ i j, i < n → j < n → p (t i) (t j)) : p (lowV t n) (highV t n) := by
  obtain ⟨m, rfl⟩ : ∃ m, n = m + 1 := ⟨n - 1, by omega⟩
  obtain ⟨⟨i, h1, h2⟩, j, h3, h4⟩ := low_get t m
  rw [h2, h4]
  exact h i j h1 h3
theorem place_in {W H x y : Nat} (hx : x < W) (hy : y < H) : y * W + x < W * H ∧ (y * W + x) % W = x ∧ (y * W + x) / W = y := by
  refine ⟨row_lt hy hx, ?_, ?_⟩
  · rw [Nat.mul_comm, Nat.mul_add_mod, Nat.mod_eq_of_lt hx]
  · rw [Nat.mul_comm, Nat.mul_add_div (by omega), Nat.div_eq_of_lt hx, Nat.add_zero]
theorem place_of {W H i : Nat} (h : i < W * H) : i % W < W ∧ i / W < H ∧ (i / W) * W + i % W = i := by
  have hW : 0 < W := by
    rcases Nat.eq_zero_or_pos W with e | e
    · rw [e, Nat.zero_mul] at h; omega
    · exact e
  exact ⟨Nat.mod_lt _ hW, Nat.div_lt_of_lt_mul h, Nat.div_add_mod' i W⟩
/-- Two tones are told apart. -/
theorem split_tones {F : Plane} {W H : Nat} {t : Nat → Nat} (hF : ∀ X Y : Int, F X Y = true → 0 ≤ X ∧ X < W ∧ 0 ≤ Y ∧ Y < H)
    (ht : ∀ x y : Nat, x < W → y < H → (2 * t (y * W + x) < lowV t (W * H) + highV t (W * H) ↔ F x y = true)) : splitP t W H = F := by
  funext X Y
  refine bool_ext ?_
  unfold splitP cutP insideV darkP
  simp only [Bool.and_eq_true, decide_eq_true_eq]
  constructor
  · rintro ⟨h1, h2⟩
    have e := (ht X.toNat Y.toNat (by omega) (by omega)).1 h2
    rw [show ((X.toNat : Nat) : Int) = X by omega, show ((Y.toNat : Nat) : Int) = Y by omega] at e
    exact e
  · intro h
    have hb := hF X Y h
    refine ⟨hb, (ht X.toNat Y.toNat (by omega) (by omega)).2 ?_⟩
    rw [show ((X.toNat : Nat) : Int) = X by omega, show ((Y.toNat : Nat) : Int) = Y by omega]
    exact h
theorem split_plain {S : Plane} {W H L D : Nat} {t : Nat → Nat} (hm : MarP S W H) (hL : D + 60 ≤ L)
    (ht : ∀ x y : Nat, x < W → y < H → (S x y = true → D ≤ t (y * W + x) + 14 ∧ t (y * W + x) ≤ D + 14) ∧ (S x y = false → L ≤ t (y * W + x) + 14 ∧ t (y * W + x) ≤ L + 14)) {x0 y0 : Nat} (h0 : S x0 y0 = true) : splitP t W H = S := by
  have hb0 := hm _ _ h0
  have hn : 0 < W * H := Nat.mul_pos (by omega) (by omega)
  have hd := (low_le (t := t) (place_in (show x0 < W by omega) (show y0 < H by omega)).1).1
  have hd2 := (ht x0 y0 (by omega) (by omega)).1 h0
  have hl := (low_le (t := t) (place_in (show 0 < W by omega) (show 0 < H by omega)).1).2
  have hl2 := (ht 0 0 (by omega) (by omega)).2 (hm.off _ _ (by omega))
  have hlh : D ≤ lowV t (W * H) + 14 ∧ highV t (W * H) ≤ L + 14 := by
    refine low_all hn (fun a b => D ≤ a + 14 ∧ b ≤ L + 14) fun i j hi hj => ?_
    have e1 := place_of hi
    have e2 := place_of hj
    have f1 := ht _ _ e1.1 e1.2.1
    have f2 := ht _ _ e2.1 e2.2.1
    rw [e1.2.2] at f1
    rw [e2.2.2] at f2
    constructor
    · cases e : S (i % W : Nat) (i / W : Nat) with
      | true => have := f1.1 e; omega
      | false => have := f1.2 e; omega
    · cases e : S (j % W : Nat) (j / W : Nat) with
      | true => have := f2.1 e; omega
      | false => have := f2.2 e; omega
  refine split_tones (fun X Y h => by have := hm X Y h; omega) fun x y hx hy => ?_
  have f := ht x y hx hy
  cases e : S x y with
  | true =>
    have := f.1 e
    exact ⟨fun _ => rfl, fun _ => by omega⟩
  | false =>
    have := f.2 e
    exact ⟨fun h => by omega, fun h => by cases h⟩
theorem img_at {S : Plane} {L D W x y : Nat} (hx : x < W) (hD : D ≤ L) : (imgT S L D W (y * W + x) : Int) = L - ((L : Int) - D) * ((S x y).toNat : Nat) := by
  have e := place_in (H := y + 1) hx (Nat.lt_succ_self y)
  unfold imgT
  rw [e.2.1, e.2.2]
  cases S x y with
  | true => rw [if_pos rfl, Bool.toNat_true]; omega
  | false => rw [if_neg (by decide), Bool.toNat_false]; omega
theorem sumR_const {f : Nat → Nat} {a M : Nat} : ∀ {k : Nat}, (∀ i, i < k → f (a + i) = M) → sumR f a k = k * M
  | 0, _ => by simp [sumR]
  | k + 1, h => by
    have e := sumR_const (k := k) fun i hi => h i (by omega)
    unfold sumR
    rw [e, h k (by omega), Nat.succ_mul]
theorem sumR_three (f : Nat → Nat) (a : Nat) : sumR f a 3 = f (a + 0) + f (a + 1) + f (a + 2) := by
  have h : sumR f a 3 = 0 + f (a + 0) + f (a + 1) + f (a + 2) := rfl
  rw [h, Nat.zero_add]
theorem nine_le (S : Plane) (X Y : Int) : nine S X Y ≤ 9 := by
  have h : ∀ b : Bool, b.toNat ≤ 1 := fun b => by cases b <;> decide
  unfold nine row3
  have a1 := h (S (X - 1) (Y - 1)); have a2 := h (S X (Y - 1)); have a3 := h (S (X + 1) (Y - 1))
  have b1 := h (S (X - 1) Y); have b2 := h (S X Y); have b3 := h (S (X + 1) Y)
  have c1 := h (S (X - 1) (Y + 1)); have c2 := h (S X (Y + 1)); have c3 := h (S (X + 1) (Y + 1))
  omega
theorem blur_at {S : Plane} {W H L D : Nat} (hm : MarP S W H) (hD : D ≤ L) {x y : Nat} (hx : x < W) (hy : y < H) :
    (blurT (imgT S L D W) W H (y * W + x) : Int) = nearV (9 * L - ((L : Int) - D) * (nine S x y : Nat)) 9 := by
  have hp := place_in hx hy
  unfold blurT
  rw [hp.2.1, hp.2.2]
  have hq := nine_le S x y
  have hpos : (0 : Int) ≤ 9 * L - ((L : Int) - D) * (nine S x y : Nat) := by
    have h1 : ((L : Int) - D) * (nine S x y : Nat) ≤ ((L : Int) - D) * 9 := Int.mul_le_mul_of_nonneg_left (by omega) (by omega)
    omega
  by_cases hin : 1 ≤ x ∧ x + 2 ≤ W ∧ 1 ≤ y ∧ y + 2 ≤ H
  · have ex : cntV x W = 3 := by unfold cntV hiV; omega
    have ey : cntV y H = 3 := by unfold cntV hiV; omega
    have hs : (winS (imgT S L D W) W H x y : Int) = 9 * L - ((L : Int) - D) * (nine S x y : Nat) := by
      obtain ⟨a, rfl⟩ : ∃ a, x = a + 1 := ⟨x - 1, by omega⟩
      obtain ⟨b, rfl⟩ : ∃ b, y = b + 1 := ⟨y - 1, by omega⟩
      have hi : ∀ i j : Nat, i < 3 → (imgT S L D W ((b + j) * W + (a + i)) : Int) = L - ((L : Int) - D) * ((S ((a : Int) + i) ((b : Int) + j)).toNat : Nat) := fun i j hi => by
        have e := img_at (S := S) (L := L) (D := D) (W := W) (x := a + i) (y := b + j) (by omega) hD
        rw [e]
        rfl
      unfold winS
      rw [ex, ey, show a + 1 - 1 = a by omega, show b + 1 - 1 = b by omega]
      rw [sumR_three, sumR_three, sumR_three, sumR_three]
      have h00 := hi 0 0 (by omega); have h10 := hi 1 0 (by omega); have h20 := hi 2 0 (by omega)
      have h01 := hi 0 1 (by omega); have h11 := hi 1 1 (by omega); have h21 := hi 2 1 (by omega)
      have h02 := hi 0 2 (by omega); have h12 := hi 1 2 (by omega); have h22 := hi 2 2 (by omega)
      have x0 : (a : Int) + (0 : Nat) = ((a + 1 : Nat) : Int) - 1 := by omega
      have x1 : (a : Int) + (1 : Nat) = ((a + 1 : Nat) : Int) := by omega
      have x2 : (a : Int) + (2 : Nat) = ((a + 1 : Nat) : Int) + 1 := by omega
      have y0 : (b : Int) + (0 : Nat) = ((b + 1 : Nat) : Int) - 1 := by omega
      have y1 : (b : Int) + (1 : Nat) = ((b + 1 : Nat) : Int) := by omega
      have y2 : (b : Int) + (2 : Nat) = ((b + 1 : Nat) : Int) + 1 := by omega
      rw [x0, y0] at h00; rw [x1, y0] at h10; rw [x2, y0] at h20
      rw [x0, y1] at h01; rw [x1, y1] at h11; rw [x2, y1] at h21
      rw [x0, y2] at h02; rw [x1, y2] at h12; rw [x2, y2] at h22
      unfold nine row3
      generalize (S (((a + 1 : Nat) : Int) - 1) (((b + 1 : Nat) : Int) - 1)).toNat = q00 at h00 ⊢
      generalize (S (((a + 1 : Nat) : Int)) (((b + 1 : Nat) : Int) - 1)).toNat = q10 at h10 ⊢
      generalize (S (((a + 1 : Nat) : Int) + 1) (((b + 1 : Nat) : Int) - 1)).toNat = q20 at h20 ⊢
      generalize (S (((a + 1 : Nat) : Int) - 1) (((b + 1 : Nat) : Int))).toNat = q01 at h01 ⊢
      generalize (S (((a + 1 : Nat) : Int)) (((b + 1 : Nat) : Int))).toNat = q11 at h11 ⊢
      generalize (S (((a + 1 : Nat) : Int) + 1) (((b + 1 : Nat) : Int))).toNat = q21 at h21 ⊢
      generalize (S (((a + 1 : Nat) : Int) - 1) (((b + 1 : Nat) : Int) + 1)).toNat = q02 at h02 ⊢
      generalize (S (((a + 1 : Nat) : Int)) (((b + 1 : Nat) : Int) + 1)).toNat = q12 at h12 ⊢
      generalize (S (((a + 1 : Nat) : Int) + 1) (((b + 1 : Nat) : Int) + 1)).toNat = q22 at h22 ⊢
      generalize (L : Int) - D = K at h00 h10 h20 h01 h11 h21 h02 h12 h22 ⊢
      have hK : K * ((q00 + q10 + q20 + (q01 + q11 + q21) + (q02 + q12 + q22) : Nat) : Int) = K * q00 + K * q10 + K * q20 + (K * q01 + K * q11 + K * q21) + (K * q02 + K * q12 + K * q22) := by
        simp only [Int.natCast_add, Int.mul_add]
      rw [hK]
      clear hK hpos hq hp
      omega
    rw [hs]
    unfold winN
    rw [ex, ey]
    exact Int.toNat_of_nonneg (le_nearV (by omega) (by omega))
  · have h0 := maj_mar hm x y (by omega)
    have kx := cnt_bd hx
    have ky := cnt_bd hy
    have hs : winS (imgT S L D W) W H x y = winN W H x y * L := by
      unfold winS winN
      rw [sumR_const (M := cntV x W * L), Nat.mul_assoc]
      intro j hj
      refine sumR_const fun i hi => ?_
      have e := img_at (S := S) (L := L) (D := D) (W := W) (x := x - 1 + i) (y := y - 1 + j) (by omega) hD
      have hf : S ((x - 1 + i : Nat) : Int) ((y - 1 + j : Nat) : Int) = false := hm.off _ _ (by
        unfold cntV hiV at hi hj
        omega)
      rw [hf, Bool.toNat_false] at e
      omega
    have hpw : 0 < winN W H x y := Nat.mul_pos (by omega) (by omega)
    rw [hs, h0, Int.natCast_mul, Int.mul_comm, nearV_mul _ _ (by omega)]
    rw [show 9 * (L : Int) - ((L : Int) - D) * ((0 : Nat) : Int) = (L : Int) * 9 by rw [Int.natCast_zero, Int.mul_zero]; omega, nearV_mul _ _ (by omega)]
    exact Int.toNat_of_nonneg (by omega)
theorem near_nine {L D : Nat} (hL : D + 60 ≤ L) {q : Nat} (hq : q ≤ 9) {v : Nat} (hv : (v : Int) = nearV (9 * L - ((L : Int) - D) * (q : Nat)) 9) :
    D ≤ v ∧ v ≤ L ∧ (q = 9 → v = D) ∧ (q = 0 → v = L) ∧ (2 * v < D + L ↔ 5 ≤ q) := by
  unfold nearV at hv
  obtain rfl | rfl | rfl | rfl | rfl | rfl | rfl | rfl | rfl | rfl : q = 0 ∨ q = 1 ∨ q = 2 ∨ q = 3 ∨ q = 4 ∨ q = 5 ∨ q = 6 ∨ q = 7 ∨ q = 8 ∨ q = 9 := by omega
  all_goals omega
theorem split_blur {S : Plane} {W H L D : Nat} (hm : MarP S W H) (hL : D + 60 ≤ L) {x0 y0 : Nat} (h0 : nine S x0 y0 = 9) : splitP (blurT (imgT S L D W) W H) W H = majP S := by
  have hin0 : 1 ≤ x0 ∧ x0 + 2 ≤ W ∧ 1 ≤ y0 ∧ y0 + 2 ≤ H := by
    refine Decidable.byContradiction fun h => ?_
    rw [maj_mar hm x0 y0 (by omega)] at h0
    omega
  obtain ⟨t, ht⟩ : ∃ t, t = blurT (imgT S L D W) W H := ⟨_, rfl⟩
  rw [← ht]
  have hv : ∀ x y : Nat, x < W → y < H → D ≤ t (y * W + x) ∧ t (y * W + x) ≤ L ∧ (nine S x y = 9 → t (y * W + x) = D) ∧ (nine S x y = 0 → t (y * W + x) = L) ∧ (2 * t (y * W + x) < D + L ↔ 5 ≤ nine S x y) := fun x y hx hy => by
    have e := blur_at (L := L) (D := D) hm (by omega) hx hy
    rw [← ht] at e
    exact near_nine hL (nine_le S x y) e
  have hn : 0 < W * H := Nat.mul_pos (by omega) (by omega)
  have hd := (low_le (t := t) (place_in (show x0 < W by omega) (show y0 < H by omega)).1).1
  have hd2 := (hv x0 y0 (by omega) (by omega)).2.2.1 h0
  have hl := (low_le (t := t) (place_in (show 0 < W by omega) (show 0 < H by omega)).1).2
  have hl2 := (hv 0 0 (by omega) (by omega)).2.2.2.1 (maj_mar hm _ _ (by omega))
  have hlh : D ≤ lowV t (W * H) ∧ highV t (W * H) ≤ L := by
    refine low_all hn (fun a b => D ≤ a ∧ b ≤ L) fun i j hi hj => ?_
    have e1 := place_of hi
    have e2 := place_of hj
    have f1 := hv _ _ e1.1 e1.2.1
    have f2 := hv _ _ e2.1 e2.2.1
    rw [e1.2.2] at f1
    rw [e2.2.2] at f2
    exact ⟨f1.1, f2.2.1⟩
  refine split_tones (fun X Y h => ?_) fun x y hx hy => ?_
  · refine Decidable.byContradiction fun h2 => ?_
    unfold majP at h
    rw [maj_mar hm X Y (by omega)] at h
    cases h
  · have f := (hv x y hx hy).2.2.2.2
    unfold majP
    rw [decide_eq_true_eq, ← f]
    omega
/-- What the camera sees. -/
theorem cap_split {S : Plane} {v : Vw} {W H : Nat} (hm : MarP S W H) (hL : v.dark + 60 ≤ v.light) (hL2 : v.light ≤ 255) (hn : ∀ k ∈ v.noise, -14 ≤ k ∧ k ≤ 14) (hb : v.blur = 1 → v.noise = []) {x0 y0 : Nat} (h0 : nine S x0 y0 = 9) :
    splitP (capT S v W H) W H = if v.blur = 1 then majP S else S := by
  unfold capT
  by_cases e : v.blur = 1
  · rw [if_pos e, if_pos e, hb e]
    have e2 : noisT (blurT (imgT S v.light v.dark W) W H) [] = blurT (imgT S v.light v.dark W) W H := by
      funext i; unfold noisT; rw [if_pos rfl]
    rw [e2]
    exact split_blur hm hL h0
  · rw [if_neg e, if_neg e]
    have h1 : ∃ x y : Nat, S x y = true := by
      have hc : S x0 y0 = true := by
        cases e : S x0 y0 with
        | true => rfl
        | false =>
          have h : ∀ b : Bool, b.toNat ≤ 1 := fun b => by cases b <;> decide
          unfold nine row3 at h0
          rw [e] at h0
          have a1 := h (S (x0 - 1) (y0 - 1)); have a2 := h (S x0 (y0 - 1)); have a3 := h (S (x0 + 1) (y0 - 1))
          have b1 := h (S (x0 - 1) y0); have b3 := h (S (x0 + 1) y0)
          have c1 := h (S (x0 - 1) (y0 + 1)); have c2 := h (S x0 (y0 + 1)); have c3 := h (S (x0 + 1) (y0 + 1))
          rw [Bool.toNat_false] at h0
          omega
      exact ⟨x0, y0, hc⟩
    obtain ⟨x1, y1, h1⟩ := h1
    refine split_plain hm hL (fun x y hx hy => ?_) h1
    have hi := img_at (S := S) (L := v.light) (D := v.dark) (y := y) hx (by omega)
    have hk : ∃ k : Int, -14 ≤ k ∧ k ≤ 14 ∧ ((noisT (imgT S v.light v.dark W) v.noise (y * W + x) : Nat) : Int) = max 0 (min 255 ((imgT S v.light v.dark W (y * W + x) : Int) + k)) := by
      unfold noisT
      by_cases en : v.noise = []
      · refine ⟨0, by omega, by omega, ?_⟩
        rw [if_pos en]
        have hb2 : (imgT S v.light v.dark W (y * W + x) : Int) ≤ 255 := by
          rw [hi]
          cases S x y with
          | true => rw [Bool.toNat_true]; omega
          | false => rw [Bool.toNat_false]; omega
        omega
      · rw [if_neg en]
        have hlen : 0 < v.noise.length := List.length_pos_iff.2 en
        have hlt := Nat.mod_lt (y * W + x) hlen
        refine ⟨v.noise.getD ((y * W + x) % v.noise.length) 0, ?_, ?_, ?_⟩
        · rw [List.getD_eq_getElem?_getD, List.getElem?_eq_getElem hlt]
          exact (hn _ (List.getElem_mem hlt)).1
        · rw [List.getD_eq_getElem?_getD, List.getElem?_eq_getElem hlt]
          exact (hn _ (List.getElem_mem hlt)).2
        · exact Int.toNat_of_nonneg (by omega)
    obtain ⟨k, k1, k2, k3⟩ := hk
    constructor
    · intro hs
      rw [hs, Bool.toNat_true] at hi
      omega
    · intro hs
      rw [hs, Bool.toNat_false] at hi
      omega
end Go.Proofs.Ytcadgjhfdolejaa
