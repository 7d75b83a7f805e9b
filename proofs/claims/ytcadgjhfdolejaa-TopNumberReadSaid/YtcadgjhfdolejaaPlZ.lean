/-
  A number's digits, the size of its print, the view: plain. Own text.
-/
import Derived.Test.YtcadgjhfdolejaaPlY
namespace Go.Proofs.Ytcadgjhfdolejaa
open Go.RowKit
set_option linter.unusedVariables false
def digC (x : Int) : UInt8 := dC (x % 10).toNat
def prefV (ds : List Int) (k : Nat) : List UInt8 := (ds.take k).map digC
theorem prefV_succ {ds : List Int} {k : Nat} (h : k < ds.length) : prefV ds (k + 1) = prefV ds k ++ [digC ds[k]] := by
  unfold prefV
  rw [List.take_succ_eq_append_getElem h, List.map_append]
  rfl
theorem digC_nat (x : Int) : ((digC x).toNat : Int) = 48 + x % 10 := by
  unfold digC
  rw [dC_nat (by omega)]
  omega
theorem prefV_len (ds : List Int) (k : Nat) : (prefV ds k).length = min k ds.length := by unfold prefV; rw [List.length_map, List.length_take]
theorem prefV_dig (ds : List Int) (k : Nat) : DigL (prefV ds k) := fun c hc => by
  unfold prefV at hc
  obtain ⟨x, -, rfl⟩ := List.mem_map.1 hc
  have := digC_nat x
  omega
/-- The number. -/
def numL (ds : List Int) : List UInt8 := if prefV ds 6 = [] then [55] else prefV ds 6
theorem numL_dig (ds : List Int) : DigL (numL ds) := by
  unfold numL
  split
  · intro c hc
    simp at hc
    rw [hc]; decide
  · exact prefV_dig ds 6
theorem numL_len (ds : List Int) : 1 ≤ (numL ds).length ∧ (numL ds).length ≤ 6 := by
  unfold numL
  split
  · simp
  · rename_i h
    have := prefV_len ds 6
    have := List.length_pos_iff.2 h
    omega
def fV (l : List UInt8) (k : Nat) : Nat := (wAt l k).toNat
theorem fV_eq {l : List UInt8} (hl : DigL l) {k : Nat} (hk : k < (widV l).length) : (fV l k : Int) = wAt l k := by
  have := wAt_bd l hl k hk
  exact Int.toNat_of_nonneg (by omega)
theorem pos_six {l : List UInt8} (hl : DigL l) (u : Nat) : ∀ j, j ≤ (vsL l).length → posV (fV l) u (6 * j) = 11 * j * u
  | 0, _ => by simp [posV]
  | j + 1, h => by
    have ih := pos_six hl u j (by omega)
    have hb := vsN_bd l hl j (by omega)
    have ht := tab_sum (vsN l j).toNat (by omega)
    have hw : ∀ i, i < 6 → (fV l (6 * j + i) : Int) = pAt (vsN l j).toNat i := fun i hi => by
      rw [fV_eq hl (by rw [widV_len]; omega), wAt_sym l (by omega) hi]
    have h0 := hw 0 (by omega); have h1 := hw 1 (by omega); have h2 := hw 2 (by omega)
    have h3 := hw 3 (by omega); have h4 := hw 4 (by omega); have h5 := hw 5 (by omega)
    have e : posV (fV l) u (6 * (j + 1)) = posV (fV l) u (6 * j) + fV l (6 * j + 0) * u + fV l (6 * j + 1) * u + fV l (6 * j + 2) * u + fV l (6 * j + 3) * u + fV l (6 * j + 4) * u + fV l (6 * j + 5) * u := rfl
    have es : fV l (6 * j + 0) + fV l (6 * j + 1) + fV l (6 * j + 2) + fV l (6 * j + 3) + fV l (6 * j + 4) + fV l (6 * j + 5) = 11 := by omega
    rw [e, ih]
    have e2 : 11 * (j + 1) * u = 11 * j * u + 11 * u := by rw [Nat.mul_add, Nat.add_mul]
    rw [e2, ← es]
    simp only [Nat.add_mul]
    omega
theorem syms6 (l : List UInt8) (h1 : 1 ≤ l.length) (h6 : l.length ≤ 6) : (symsV l).length ≤ 4 := by
  unfold symsV
  split
  · rw [List.length_cons, pairV_len ((l.length + 1) / 2) (48 :: l) (by simp; omega)]; omega
  · rw [pairV_len (l.length / 2) l (by omega)]; omega
theorem wide_bd {l : List UInt8} (hl : DigL l) (h1 : 1 ≤ l.length) (h6 : l.length ≤ 6) {u : Nat} (hu : u ≤ 4) (hu0 : 1 ≤ u) : 1 ≤ posV (fV l) u (widV l).length ∧ posV (fV l) u (widV l).length ≤ 316 ∧ 25 ≤ (widV l).length ∧ (widV l).length ≤ 43 := by
  have hs := syms6 l h1 h6
  have hs1 := symsV_len l h1 (by omega)
  have hv := vsL_len l
  have hw := widV_len l
  have e : posV (fV l) u (widV l).length = posV (fV l) u (6 * (vsL l).length) + fV l (6 * (vsL l).length) * u := by rw [hw]; rfl
  have hf : fV l (6 * (vsL l).length) = 2 := by unfold fV; rw [wAt_last]; rfl
  rw [e, hf, pos_six hl u _ (Nat.le_refl _)]
  have e1 : 11 * (vsL l).length * u ≤ 77 * 4 := Nat.mul_le_mul (by omega) hu
  omega
/-- The view: its numbers brought into their ranges. -/
def nois1 (bl : Nat) (ns : List Int) : List Int := if bl = 0 then (ns.take 20).map fun x => x % 29 - 14 else []
def vwV (a0 a1 a2 a3 a4 a5 a6 : Int) (ns : List Int) : Vw := ⟨(2 + a0 % 2).toNat, (a1 % 33).toNat, (a2 % 33).toNat, (a3 % 4).toNat, (a4 % 2).toNat, (a6 % 100 + 60 + a5 % 90).toNat, (a6 % 100).toNat, nois1 (a4 % 2).toNat ns⟩
theorem nois1_bd {bl : Nat} {ns : List Int} : (nois1 bl ns).length ≤ 20 ∧ ∀ k ∈ nois1 bl ns, -14 ≤ k ∧ k ≤ 14 := by
  unfold nois1
  split
  · refine ⟨by rw [List.length_map, List.length_take]; omega, fun k hk => ?_⟩
    obtain ⟨x, -, rfl⟩ := List.mem_map.1 hk
    omega
  · exact ⟨by simp, fun k hk => by cases hk⟩
structure VwGood (v : Vw) : Prop where
  ok : VwOk v
  sc : v.sc = 2 ∨ v.sc = 3
  tone : v.dark + 60 ≤ v.light
  val : ∀ k ∈ v.noise, -14 ≤ k ∧ k ≤ 14
  quiet : v.blur = 1 → v.noise = []
theorem vwV_good (a0 a1 a2 a3 a4 a5 a6 : Int) (ns : List Int) : VwGood (vwV a0 a1 a2 a3 a4 a5 a6 ns) := by
  have hn := nois1_bd (bl := (a4 % 2).toNat) (ns := ns)
  refine ⟨⟨?_, ?_, ?_, ?_, ?_, ?_, hn.1, fun k hk => ?_⟩, ?_, ?_, hn.2, fun h => ?_⟩
  · show 1 ≤ (2 + a0 % 2).toNat ∧ (2 + a0 % 2).toNat ≤ 3; omega
  · show (a1 % 33).toNat ≤ 32; omega
  · show (a2 % 33).toNat ≤ 32; omega
  · show (a3 % 4).toNat ≤ 3; omega
  · show (a4 % 2).toNat ≤ 1; omega
  · show (a6 % 100).toNat < (a6 % 100 + 60 + a5 % 90).toNat ∧ (a6 % 100 + 60 + a5 % 90).toNat ≤ 255; omega
  · have := hn.2 k hk; omega
  · show (2 + a0 % 2).toNat = 2 ∨ (2 + a0 % 2).toNat = 3; omega
  · show (a6 % 100).toNat + 60 ≤ (a6 % 100 + 60 + a5 % 90).toNat; omega
  · have e : (a4 % 2).toNat = 1 := h
    show nois1 (a4 % 2).toNat ns = []
    unfold nois1
    rw [if_neg (by omega)]
/-- Print and picture of a number. -/
structure PicOk (l : List UInt8) (u g : Nat) (v : Vw) (N W : Nat) (Q : Plane) : Prop where
  inn : InP ⟨W + 6, 10, Q⟩
  form : ∀ X Y : Int, Q X Y = true ↔ ∃ d, dl g Y = some d ∧ OnBar (fV l) u N 4 d X
theorem pic_ok {l : List UInt8} (hl : DigL l) {u g N W : Nat} {v : Vw} (hu : 1 ≤ u) (hg : g ≤ 1) (hN : N = (widV l).length) (hW : posV (fV l) u N = W) {z : Nat → List (Nat × Nat)} (hz : ∀ y, y < 4 → Runs (rowP (barP (fV l) u N 4 W) y) W 0 (z y)) :
    PicOk l u g v N W (cutP (W + 6) 10 (shiftP (growN (W + 6) 10 (runsP ((rowsTo z 4).map sh3)) g) 1 (-1))) := by
  refine ⟨fun X Y h => cutP_in h, fun X Y => ?_⟩
  refine ink_form (f := fV l) (u := u) (N := N) (W := W) hg (fun k hk => ?_) hu hW (fun X Y => ?_) X Y
  · have := wAt_bd l hl k (by omega)
    unfold fV
    omega
  · rw [moved_plane hz]
    constructor
    · rintro ⟨⟨h1, h2, h3, h4⟩, h5⟩
      exact ⟨⟨h1, by omega, h3, h4⟩, h5⟩
    · rintro ⟨⟨h1, h2, h3, h4⟩, h5⟩
      exact ⟨⟨h1, by omega, h3, h4⟩, h5⟩
end Go.Proofs.Ytcadgjhfdolejaa
