/-
  What the camera sees of the print, from each side, plain. Own text.
-/
import Derived.Test.YtcadgjhfdolejaaPlV
namespace Go.Proofs.Ytcadgjhfdolejaa
open Go.RowKit
set_option linter.unusedVariables false
def InP (s : Bm) : Prop := ∀ X Y : Int, s.p X Y = true → 0 ≤ X ∧ X < s.W ∧ 0 ≤ Y ∧ Y < s.H
theorem cutP_in {W H : Nat} {f : Plane} {X Y : Int} (h : cutP W H f X Y = true) : 0 ≤ X ∧ X < W ∧ 0 ≤ Y ∧ Y < H := by
  unfold cutP insideV at h
  rw [Bool.and_eq_true, decide_eq_true_eq] at h
  exact h.1
theorem turnS_in (s : Bm) : InP (turnS s) := fun X Y h => cutP_in h
theorem turnS_p {s : Bm} (h : InP s) (x y : Int) : (turnS s).p x y = s.p y ((s.H : Int) - 1 - x) := by
  refine bool_ext ?_
  show cutP s.H s.W (quarP s.H s.p) x y = true ↔ _
  unfold cutP insideV quarP
  rw [Bool.and_eq_true, decide_eq_true_eq]
  constructor
  · exact fun h => h.2
  · intro h2
    have := h _ _ h2
    exact ⟨by omega, h2⟩
theorem capP_in {s : Bm} (h : InP s) {c : Nat} (hc : 0 < c) (vx vy : Nat) (X Y : Int) : capP s.p c vx vy X Y = s.p ((X - vx) / c) ((Y - vy) / c) := by
  refine bool_ext ?_
  unfold capP
  rw [Bool.and_eq_true, Bool.and_eq_true, decide_eq_true_eq, decide_eq_true_eq]
  constructor
  · exact fun h => h.2
  · intro h2
    have h3 := h _ _ h2
    have e1 := (Int.le_ediv_iff_mul_le (a := 0) (b := X - vx) (show (0 : Int) < c by omega)).1 h3.1
    have e2 := (Int.le_ediv_iff_mul_le (a := 0) (b := Y - vy) (show (0 : Int) < c by omega)).1 h3.2.2.1
    rw [Int.zero_mul] at e1 e2
    exact ⟨⟨e1, e2⟩, h2⟩
theorem div_rev (M z : Int) {c : Nat} (hc : c = 2 ∨ c = 3) : M - 1 - z / c = (M * c - 1 - z) / c := by
  rcases hc with rfl | rfl <;> omega
theorem kd_same {A A' c Y Y' : Int} {g : Nat} (h1 : (A' ≤ Y' ∧ Y' < A' + 4 * c) ↔ (A ≤ Y ∧ Y < A + 4 * c)) (h2 : (A' - c ≤ Y' ∧ Y' < A' + 5 * c) ↔ (A - c ≤ Y ∧ Y < A + 5 * c)) : kd A' c g Y' = kd A c g Y := by
  unfold kd
  simp only [h1, h2]
theorem kd_shift (A c v Y : Int) (g : Nat) : kd A c g (Y - v) = kd (v + A) c g Y := kd_same (by omega) (by omega)
theorem kd_rev (c v Y : Int) (g : Nat) : kd (2 * c) c g (10 * c - 1 - (Y - v)) = kd (v + 4 * c) c g Y := kd_same (by omega) (by omega)
/-- Where the bars begin in the scaled print. -/
def edgE (f : Nat → Nat) (u c : Nat) (k : Nat) : Int := (4 + (posV f u k : Int)) * c
theorem onBar_scale (f : Nat → Nat) (u N : Nat) {c : Nat} (hc : 0 < c) (d x : Int) : OnBar f u N 4 d (x / c) ↔ OnE (edgE f u c) N (d * c) x := by
  have e : ∀ k, k < N → k % 2 = 0 → ((4 + (posV f u k : Int) - d ≤ x / c ∧ x / c < 4 + (posV f u (k + 1) : Int) + d) ↔ edgE f u c k - d * c ≤ x ∧ x < edgE f u c (k + 1) + d * c) := fun k _ _ => by
    unfold edgE
    rw [Int.le_ediv_iff_mul_le (show (0 : Int) < c by omega), Int.ediv_lt_iff_lt_mul (show (0 : Int) < c by omega), Int.sub_mul, Int.add_mul (4 + (posV f u (k + 1) : Int)) d]
  unfold OnBar OnE
  constructor
  · rintro ⟨k, h1, h2, h3⟩
    exact ⟨k, h1, h2, (e k h1 h2).1 h3⟩
  · rintro ⟨k, h1, h2, h3⟩
    exact ⟨k, h1, h2, (e k h1 h2).2 h3⟩
/-- The print, scaled. -/
theorem scale_form {f : Nat → Nat} {u N g c : Nat} (hg : g ≤ 1) (hc : c = 2 ∨ c = 3) {Q : Plane} (hQ : ∀ X Y : Int, Q X Y = true ↔ ∃ d, dl g Y = some d ∧ OnBar f u N 4 d X) (x y : Int) :
    Q (x / c) (y / c) = true ↔ ∃ d, kd (2 * (c : Int)) c g y = some d ∧ OnE (edgE f u c) N d x := by
  have hdl : dl g (y / c) = if (2 * (c : Int)) ≤ y ∧ y < 2 * (c : Int) + 4 * c then some (g : Int) else if g = 1 ∧ 2 * (c : Int) - c ≤ y ∧ y < 2 * (c : Int) + 5 * c then some 0 else none := by
    unfold dl
    by_cases h1 : (2 * (c : Int)) ≤ y ∧ y < 2 * (c : Int) + 4 * c
    · rw [if_pos h1, if_pos (by rcases hc with rfl | rfl <;> omega)]
    · rw [if_neg h1, if_neg (by rcases hc with rfl | rfl <;> omega)]
      by_cases h2 : g = 1 ∧ 2 * (c : Int) - c ≤ y ∧ y < 2 * (c : Int) + 5 * c
      · rw [if_pos h2, if_pos (by rcases hc with rfl | rfl <;> omega)]
      · rw [if_neg h2, if_neg (by rcases hc with rfl | rfl <;> omega)]
  rw [hQ, hdl]
  unfold kd
  have hs := onBar_scale f u N (c := c) (by omega)
  have one : ∀ a : Int, (∃ d, some a = some d ∧ OnBar f u N 4 d (x / c)) ↔ ∃ d, some (a * c) = some d ∧ OnE (edgE f u c) N d x := fun a => by
    constructor
    · rintro ⟨d, h1, h2⟩
      cases h1
      exact ⟨_, rfl, (hs a x).1 h2⟩
    · rintro ⟨d, h1, h2⟩
      cases h1
      exact ⟨_, rfl, (hs a x).2 h2⟩
  split
  · exact one g
  · split
    · have := one 0
      rw [Int.zero_mul] at this
      exact this
    · constructor
      · rintro ⟨d, h, -⟩; cases h
      · rintro ⟨d, h, -⟩; cases h
theorem barS_mk {E E' : Nat → Int} {n g : Nat} {c A : Int} {S Q : Plane} {κ : Int → Option Int} {fx : Int → Int} (h : ∀ X Y, S X Y = true ↔ ∃ d, κ Y = some d ∧ OnE E n d (fx X))
    (h1 : ∀ Y, κ Y = kd A c g Y) (h2 : ∀ d X, OnE E n d (fx X) ↔ OnE E' n d X) : BarS E' n c g A S := fun X Y => by
  rw [h, h1]
  exact ⟨fun ⟨d, a, b⟩ => ⟨d, a, (h2 d X).1 b⟩, fun ⟨d, a, b⟩ => ⟨d, a, (h2 d X).2 b⟩⟩
/-- The edges in the picture. -/
def edgV (f : Nat → Nat) (u c v : Nat) (k : Nat) : Int := v + edgE f u c k
theorem EdgeOk.rev {l : List UInt8} {E : Nat → Int} {n c u W : Nat} (h : EdgeOk l E n c u W) {B : Int} (h1 : 2 * (c : Int) ≤ B - E n) (h2 : B - E 0 + 2 * (c : Int) ≤ W) : EdgeOk l (revE E n B) n c u W := by
  have ho := h.odd
  have key : ∀ k, k < n → revE E n B (k + 1) - revE E n B k = E (n - 1 - k + 1) - E (n - 1 - k) := fun k hk => by
    unfold revE
    rw [show n - (k + 1) = n - 1 - k by omega, show n - 1 - k + 1 = n - k by omega]
    omega
  refine ⟨h.len, h.c2, h.u3, ?_, ?_, ?_, h.wid⟩
  · rcases h.dir with e | e
    · exact .inr fun k hk => by rw [key k hk, e _ (by omega)]
    · refine .inl fun k hk => ?_
      rw [key k hk, e _ (by omega), show n - 1 - (n - 1 - k) = k by omega]
  · unfold revE; rw [Nat.sub_zero]; exact h1
  · unfold revE; rw [Nat.sub_self]; exact h2
theorem edge_str {l : List UInt8} (hl : DigL l) {f : Nat → Nat} {u N c v W Wi : Nat} (hN : N = (widV l).length) (hf : ∀ k, k < N → (f k : Int) = wAt l k) (hu : 3 ≤ u) (hc : 2 ≤ c) (hv : v ≤ 32) (hW : posV f u N = W) (hWi : Wi = (W + 6) * c + 32) (hWi9 : Wi ≤ 1024) :
    EdgeOk l (edgV f u c v) N c u Wi := by
  have e1 : (Wi : Int) = (W : Int) * c + 6 * c + 32 := by rw [hWi]; rw [Int.natCast_add, Int.natCast_mul, Int.natCast_add, Int.add_mul]; rfl
  refine ⟨hN, hc, hu, .inl fun k hk => ?_, ?_, ?_, hWi9⟩
  · unfold edgV edgE
    have e : posV f u (k + 1) = posV f u k + f k * u := rfl
    rw [e, ← hf k hk, Int.natCast_add, Int.natCast_mul, Int.natCast_mul]
    have e3 : (4 + ((posV f u k : Int) + (f k : Int) * (u : Int))) * c = (4 + (posV f u k : Int)) * c + (f k : Int) * u * c := by rw [← Int.add_assoc, Int.add_mul]
    rw [e3, show (c : Int) * u * f k = (f k : Int) * u * c by rw [Int.mul_comm (c : Int) u, Int.mul_comm, Int.mul_assoc]]
    omega
  · unfold edgV edgE
    have e : posV f u 0 = 0 := rfl
    rw [e]
    omega
  · unfold edgV edgE
    rw [hW, e1, Int.add_mul]
    omega
/-- What is asked of a picture. -/
structure SeeOk (l : List UInt8) (E : Nat → Int) (n c u g : Nat) (A : Int) (S : Plane) (W : Nat) : Prop where
  edge : EdgeOk l E n c u W
  bars : BarS E n c g A S
  lo : 2 * (c : Int) ≤ A
  hi : A ≤ 32 + 4 * (c : Int)
theorem SeeOk.mar {l : List UInt8} (hl : DigL l) {E : Nat → Int} {n c u g : Nat} {A : Int} {S : Plane} {W H : Nat} (hg : g ≤ 1) (h : SeeOk l E n c u g A S W) (hH : H = 10 * c + 32) : MarP S W H := fun X Y hs => by
  obtain ⟨d, h1, k, k1, k2, k3, k4⟩ := (h.bars X Y).1 hs
  have hc := h.edge.c2
  have hb := kd_bd (by omega) hg h1
  have hm := (h.edge.gap hl).mono (by omega)
  have e1 := hm 0 k (by omega) (by omega)
  have e2 := hm (k + 1) n (by omega) (Nat.le_refl _)
  have e3 := h.edge.lo
  have e4 := h.edge.hi
  have e5 := h.lo
  have e6 := h.hi
  omega
theorem SeeOk.full {l : List UInt8} (hl : DigL l) {E : Nat → Int} {n c u g : Nat} {A : Int} {S : Plane} {W : Nat} (hg : g ≤ 1) (h : SeeOk l E n c u g A S W) : ∃ x y : Nat, nine S x y = 9 := by
  have hc := h.edge.c2
  have ho := h.edge.odd
  have e0 := h.edge.gap hl 0 (by omega)
  have e3 := h.edge.lo
  have e5 := h.lo
  have hd : ∀ Y, A ≤ Y → Y < A + 4 * c → kd A c g Y = some ((g : Int) * c) := fun Y y1 y2 => by unfold kd; rw [if_pos ⟨y1, y2⟩]
  have hgc : 0 ≤ (g : Int) * c := Int.mul_nonneg (by omega) (by omega)
  have hs : ∀ X Y, E 0 ≤ X → X ≤ E 0 + 2 → A ≤ Y → Y ≤ A + 2 → S X Y = true := fun X Y x1 x2 y1 y2 => (h.bars X Y).2 ⟨_, hd Y y1 (by omega), 0, by omega, rfl, by omega, by omega⟩
  refine ⟨(E 0 + 1).toNat, (A + 1).toNat, ?_⟩
  rw [Int.toNat_of_nonneg (by omega), Int.toNat_of_nonneg (by omega)]
  unfold nine row3
  rw [hs (E 0 + 1 - 1) (A + 1 - 1) (by omega) (by omega) (by omega) (by omega), hs (E 0 + 1) (A + 1 - 1) (by omega) (by omega) (by omega) (by omega), hs (E 0 + 1 + 1) (A + 1 - 1) (by omega) (by omega) (by omega) (by omega),
    hs (E 0 + 1 - 1) (A + 1) (by omega) (by omega) (by omega) (by omega), hs (E 0 + 1) (A + 1) (by omega) (by omega) (by omega) (by omega), hs (E 0 + 1 + 1) (A + 1) (by omega) (by omega) (by omega) (by omega),
    hs (E 0 + 1 - 1) (A + 1 + 1) (by omega) (by omega) (by omega) (by omega), hs (E 0 + 1) (A + 1 + 1) (by omega) (by omega) (by omega) (by omega), hs (E 0 + 1 + 1) (A + 1 + 1) (by omega) (by omega) (by omega) (by omega)]
  rfl
/-- The print from each side. -/
theorem see_print {l : List UInt8} (hl : DigL l) {f : Nat → Nat} {u N g c vx vy W Wi : Nat} (hN : N = (widV l).length) (hf : ∀ k, k < N → (f k : Int) = wAt l k) (hu : 3 ≤ u) (hg : g ≤ 1) (hc : c = 2 ∨ c = 3) (hx : vx ≤ 32) (hy : vy ≤ 32) (hW : posV f u N = W) (hWi : Wi = (W + 6) * c + 32) (hWi9 : Wi ≤ 1024)
    {Q : Plane} (hin : InP ⟨W + 6, 10, Q⟩) (hQ : ∀ X Y : Int, Q X Y = true ↔ ∃ d, dl g Y = some d ∧ OnBar f u N 4 d X) :
    (∃ E A, SeeOk l E N c u g A (capP (turnN ⟨W + 6, 10, Q⟩ 0).p c vx vy) Wi) ∧
    (∃ E A, SeeOk l E N c u g A (swapP (capP (turnN ⟨W + 6, 10, Q⟩ 1).p c vx vy)) Wi) ∧
    (∃ E A, SeeOk l E N c u g A (capP (turnN ⟨W + 6, 10, Q⟩ 2).p c vx vy) Wi) ∧
    ∃ E A, SeeOk l E N c u g A (swapP (capP (turnN ⟨W + 6, 10, Q⟩ 3).p c vx vy)) Wi := by
  have hc0 : 0 < c := by omega
  obtain ⟨s0, hs0⟩ : ∃ s : Bm, s = ⟨W + 6, 10, Q⟩ := ⟨_, rfl⟩
  rw [← hs0] at hin ⊢
  have p0 : ∀ x y, s0.p x y = Q x y := fun x y => by rw [hs0]
  have w0 : s0.W = W + 6 ∧ s0.H = 10 := by rw [hs0]; exact ⟨rfl, rfl⟩
  have i1 : InP (turnS s0) := turnS_in _
  have i2 : InP (turnS (turnS s0)) := turnS_in _
  have i3 : InP (turnS (turnS (turnS s0))) := turnS_in _
  have p1 : ∀ x y, (turnS s0).p x y = Q y (10 - 1 - x) := fun x y => by rw [turnS_p hin, p0, w0.2]; rfl
  have p2 : ∀ x y, (turnS (turnS s0)).p x y = Q (((W + 6 : Nat) : Int) - 1 - x) (10 - 1 - y) := fun x y => by
    rw [turnS_p i1, p1, show (turnS s0).H = W + 6 from w0.1]
  have p3 : ∀ x y, (turnS (turnS (turnS s0))).p x y = Q (((W + 6 : Nat) : Int) - 1 - y) x := fun x y => by
    rw [turnS_p i2, p2, show (turnS (turnS s0)).H = 10 from w0.2]
    rw [show (10 : Int) - 1 - (((10 : Nat) : Int) - 1 - x) = x by omega]
  have hB : ((W + 6 : Nat) : Int) * c = (W : Int) * c + 6 * c := by rw [Int.natCast_add, Int.add_mul]; rfl
  have e1 : (Wi : Int) = (W : Int) * c + 6 * c + 32 := by rw [hWi]; rw [Int.natCast_add, Int.natCast_mul, hB]; rfl
  have hE : ∀ v, v ≤ 32 → EdgeOk l (edgV f u c v) N c u Wi := fun v hv => edge_str hl hN hf hu (by omega) hv hW hWi hWi9
  have hE0 : ∀ v, edgV f u c v 0 = v + 4 * c := fun v => by
    unfold edgV edgE
    have e : posV f u 0 = 0 := rfl
    rw [e]; omega
  have hEN : ∀ v, edgV f u c v N = v + (4 * c + (W : Int) * c) := fun v => by
    unfold edgV edgE
    rw [hW, Int.add_mul]
  have hR : ∀ v : Nat, v ≤ 32 → EdgeOk l (revE (edgV f u c v) N ((W : Int) * c + 6 * c + 2 * v)) N c u Wi := fun v hv => (hE v hv).rev (by rw [hEN]; omega) (by rw [hE0, e1]; omega)
  have hodd := (hE 0 (by omega)).odd.1
  have hfwd : ∀ (v : Nat) (d X : Int), OnE (edgE f u c) N d (X - v) ↔ OnE (edgV f u c v) N d X := fun v d X => onE_shift (edgE f u c) N v d X
  have hbwd : ∀ (v : Nat) (d X : Int), OnE (edgE f u c) N d (((W + 6 : Nat) : Int) * c - 1 - (X - v)) ↔ OnE (revE (edgV f u c v) N ((W : Int) * c + 6 * c + 2 * v)) N d X := fun v d X => by
    rw [← onE_turn (edgV f u c v) N hodd, ← hfwd, hB]
    rw [show (W : Int) * c + 6 * c - 1 - (X - v) = (W : Int) * c + 6 * c + 2 * v - 1 - X - v by omega]
  have hsc := scale_form (c := c) hg hc hQ
  refine ⟨⟨edgV f u c vx, vy + 2 * c, hE vx hx, ?_, by omega, by omega⟩, ⟨edgV f u c vy, vx + 4 * c, hE vy hy, ?_, by omega, by omega⟩, ⟨_, vy + 4 * c, hR vx hx, ?_, by omega, by omega⟩, ⟨_, vx + 2 * c, hR vy hy, ?_, by omega, by omega⟩⟩
  · intro X Y
    show capP s0.p c vx vy X Y = true ↔ _
    rw [capP_in hin hc0, p0, hsc, kd_shift]
    exact ⟨fun ⟨d, a, b⟩ => ⟨d, a, (hfwd vx d X).1 b⟩, fun ⟨d, a, b⟩ => ⟨d, a, (hfwd vx d X).2 b⟩⟩
  · intro X Y
    show capP (turnS s0).p c vx vy Y X = true ↔ _
    rw [capP_in i1 hc0, p1, div_rev 10 (Y - vx) hc, hsc, kd_rev]
    exact ⟨fun ⟨d, a, b⟩ => ⟨d, a, (hfwd vy d X).1 b⟩, fun ⟨d, a, b⟩ => ⟨d, a, (hfwd vy d X).2 b⟩⟩
  · intro X Y
    show capP (turnS (turnS s0)).p c vx vy X Y = true ↔ _
    rw [capP_in i2 hc0, p2, div_rev _ (X - vx) hc, div_rev 10 (Y - vy) hc, hsc, kd_rev]
    exact ⟨fun ⟨d, a, b⟩ => ⟨d, a, (hbwd vx d X).1 b⟩, fun ⟨d, a, b⟩ => ⟨d, a, (hbwd vx d X).2 b⟩⟩
  · intro X Y
    show capP (turnS (turnS (turnS s0))).p c vx vy Y X = true ↔ _
    rw [capP_in i3 hc0, p3, div_rev _ (X - vy) hc, hsc, kd_shift]
    exact ⟨fun ⟨d, a, b⟩ => ⟨d, a, (hbwd vy d X).1 b⟩, fun ⟨d, a, b⟩ => ⟨d, a, (hbwd vy d X).2 b⟩⟩
end Go.Proofs.Ytcadgjhfdolejaa
