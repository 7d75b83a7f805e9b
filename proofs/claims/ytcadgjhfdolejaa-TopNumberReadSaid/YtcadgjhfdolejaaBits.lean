/-
  Bitmaps: planes of bits, and the bytes that hold them. The walks of curve.Nearest, bitmap.stride, Blank, Is, Mark. Own text.
-/
import Derived.Test.YtcadgjhfdolejaaBase
import Derived.Test.YtcadgjhfdolejaaRows
import Derived.Handy
import Derived.BigQuiet
import Derived.BigRegion
import Derived.RegionTactic
import Derived.Deep.Cut
import Derived.Deep.CutRange
import Derived.Deep.CutBlock
import Derived.Deep.RegionHeld3
import Derived.Deep.RegionLaw
import Derived.StillTactics
import Derived.StillTailTactics
import Derived.WalkSpells
import Derived.WalkLawsBesides
import Derived.IntWalk
namespace Go.Proofs.Ytcadgjhfdolejaa
open Go.RowKit
set_option linter.unusedVariables false
theorem bit_and : ∀ b : Nat, b < 256 → ∀ j : Nat, j < 8 → (bits .and .u8 (b : Int) (128 / 2 ^ j) != 0) = Nat.testBit b (7 - j) := by decide +kernel
theorem bit_or : ∀ b : Nat, b < 256 → ∀ j : Nat, j < 8 → (bits .or .u8 (b : Int) (128 / 2 ^ j)) = ((b ||| 2 ^ (7 - j) : Nat) : Int) := by decide +kernel
/-- A plane of bits. -/
abbrev Plane := Int → Int → Bool
/-- The bytes of a row. -/
def strV (W : Nat) : Nat := (W + 7) / 8
theorem str_bd {W : Nat} (h : W ≤ 1024) : strV W ≤ 128 := by unfold strV; omega
theorem str_in {W x : Nat} (h : x < W) : x / 8 < strV W := by unfold strV; omega
def insideV (W H : Nat) (x y : Int) : Bool := decide (0 ≤ x ∧ x < W ∧ 0 ≤ y ∧ y < H)
/-- The bytes t hold the plane p of W times H bits. -/
structure Bt (W H : Nat) (t : Nat → Nat) (p : Plane) : Prop where
  lt : ∀ i, t i < 256
  bit : ∀ x y : Nat, y < H → x < 8 * strV W → (t (y * strV W + x / 8)).testBit (7 - x % 8) = p x y
  out : ∀ x y : Int, ¬ (0 ≤ x ∧ x < W ∧ 0 ≤ y ∧ y < H) → p x y = false
def noneP : Plane := fun _ _ => false
def markP (p : Plane) (X Y : Int) : Plane := fun x y => p x y || (decide (x = X) && decide (y = Y))
theorem bt_none (W H : Nat) : Bt W H (fun _ => 0) noneP := ⟨fun _ => by decide, fun x y _ _ => Nat.zero_testBit _, fun _ _ _ => rfl⟩
theorem row_lt {s H y k : Nat} (hy : y < H) (hk : k < s) : y * s + k < s * H := by
  have h : (y + 1) * s ≤ H * s := Nat.mul_le_mul_right s hy
  rw [Nat.succ_mul, Nat.mul_comm H s] at h
  omega
theorem row_inj {s y y' k k' : Nat} (hk : k < s) (hk' : k' < s) (h : y * s + k = y' * s + k') : y = y' ∧ k = k' := by
  have hs : 0 < s := by omega
  have a1 : (y * s + k) / s = y := by rw [Nat.mul_comm, Nat.mul_add_div hs, Nat.div_eq_of_lt hk, Nat.add_zero]
  have a2 : (y' * s + k') / s = y' := by rw [Nat.mul_comm, Nat.mul_add_div hs, Nat.div_eq_of_lt hk', Nat.add_zero]
  have : y = y' := by rw [← a1, ← a2, h]
  subst this
  exact ⟨rfl, by omega⟩
theorem or_lt (a j : Nat) (ha : a < 256) (hj : j < 8) : a ||| 2 ^ (7 - j) < 256 := by
  have h : 2 ^ (7 - j) < 2 ^ 8 := Nat.pow_lt_pow_right (by decide) (by omega)
  exact Nat.or_lt_two_pow (n := 8) ha h
/-- One bit more. -/
theorem Bt.mark {W H : Nat} {t : Nat → Nat} {p : Plane} (h : Bt W H t p) {X Y : Nat} (hx : X < W) (hy : Y < H) :
    Bt W H (fun i => if i = Y * strV W + X / 8 then t i ||| 2 ^ (7 - X % 8) else t i) (markP p X Y) := by
  have hX := str_in hx
  refine ⟨fun i => ?_, fun x y hy' hx' => ?_, fun x y ho => ?_⟩
  · show (if _ then _ else _) < _
    split
    · exact or_lt _ _ (h.lt i) (Nat.mod_lt _ (by decide))
    · exact h.lt i
  · have hx8 : x / 8 < strV W := by omega
    have hb := h.bit x y hy' hx'
    unfold markP
    rw [← hb]
    by_cases hc : y * strV W + x / 8 = Y * strV W + X / 8
    · rw [if_pos hc, Nat.testBit_or]
      obtain ⟨e1, e2⟩ := row_inj hx8 hX hc
      subst e1
      congr 1
      rw [Nat.testBit_two_pow]
      have : (7 - X % 8 = 7 - x % 8) ↔ x = X := by omega
      by_cases hxx : x = X
      · rw [decide_eq_true (this.2 hxx), decide_eq_true (by omega : (x : Int) = X), decide_eq_true rfl]; rfl
      · rw [decide_eq_false (fun e => hxx (this.1 e)), decide_eq_false (by omega : ¬ (x : Int) = X)]; rfl
    · rw [if_neg hc]
      have : (decide ((x : Int) = X) && decide ((y : Int) = Y)) = false := by
        rw [Bool.and_eq_false_iff]
        by_cases hxx : x = X
        · right
          refine decide_eq_false fun e => hc ?_
          rw [hxx, show y = Y by omega]
        · exact .inl (decide_eq_false (by omega))
      rw [this, Bool.or_false]
  · unfold markP
    rw [h.out x y ho]
    have : (decide (x = (X : Int)) && decide (y = (Y : Int))) = false := by
      rw [Bool.and_eq_false_iff]
      by_cases hxx : x = X
      · exact .inr (decide_eq_false (by omega))
      · exact .inl (decide_eq_false hxx)
    rw [this]; rfl
/-- The bytes in memory. -/
def encB (n : Nat) : Value := .int .u8 (n : Int)
def Dat (w : World) (d W H : Nat) (p : Plane) : Prop := ∃ t, FTab encB w d (strV W * H) t ∧ Bt W H t p
theorem Dat.below {w w' : World} {B d W H : Nat} {p : Plane} (h : Dat w d W H p) (hb : Below B w w') (hl : d < B) : Dat w' d W H p := by
  obtain ⟨t, h1, h2⟩ := h
  exact ⟨t, h1.below hb hl, h2⟩
theorem Dat.drewN {w : World} {d W H : Nat} {p : Plane} (h : Dat w d W H p) (n : Nat) : Dat (w.drewN n) d W H p := by
  obtain ⟨t, h1, h2⟩ := h
  exact ⟨t, h1.drewN n, h2⟩
theorem Dat.drew {w : World} {d W H : Nat} {p : Plane} (h : Dat w d W H p) : Dat w.drew d W H p := by
  obtain ⟨t, h1, h2⟩ := h
  exact ⟨t, h1.drew, h2⟩
theorem Dat.get {w : World} {d W H : Nat} {p : Plane} (h : Dat w d W H p) {x y : Nat} (hx : x < W) (hy : y < H) :
    ∃ n : Nat, n < 256 ∧ w.cell? ⟨d, y * strV W + x / 8, none⟩ = some (.int .u8 (n : Int)) ∧ n.testBit (7 - x % 8) = p x y := by
  obtain ⟨t, h1, h2⟩ := h
  have hX := str_in hx
  exact ⟨_, h2.lt _, h1.at' _ (row_lt hy hX), h2.bit x y hy (by omega)⟩
theorem Dat.out {w : World} {d W H : Nat} {p : Plane} (h : Dat w d W H p) (x y : Int) (ho : ¬ (0 ≤ x ∧ x < W ∧ 0 ≤ y ∧ y < H)) : p x y = false := by
  obtain ⟨t, h1, h2⟩ := h
  exact h2.out x y ho
theorem Dat.mark {w : World} {d W H : Nat} {p : Plane} (h : Dat w d W H p) {x y : Nat} (hx : x < W) (hy : y < H) {n : Nat} (hn : w.cell? ⟨d, y * strV W + x / 8, none⟩ = some (.int .u8 (n : Int))) :
    Dat (w.setCell ⟨d, y * strV W + x / 8, none⟩ (.int .u8 ((n ||| 2 ^ (7 - x % 8) : Nat) : Int))) d W H (markP p x y) := by
  obtain ⟨t, h1, h2⟩ := h
  have hX := str_in hx
  have hi := row_lt hy hX
  have e : t (y * strV W + x / 8) = n := by
    have h := (h1.at' _ hi).symm.trans hn
    simp only [encB, Option.some.injEq, Value.int.injEq, true_and] at h
    exact_mod_cast h
  refine ⟨_, (h1.set hi (n ||| 2 ^ (7 - x % 8))).congr fun i _ => ?_, h2.mark hx hy⟩
  by_cases hc : i = y * strV W + x / 8
  · rw [if_pos hc, if_pos hc, hc, e]
  · rw [if_neg hc, if_neg hc]
theorem Dat.made (w : World) (W H : Nat) (e : TypeId) : Dat (w.alloc (.cells (madeArr (.int .u8 0) (strV W * H)) e)) w.heap.size W H noneP :=
  ⟨_, FTab.made encB w (strV W * H) 0 e, bt_none W H⟩
theorem Dat.other {w : World} {d W H : Nat} {p : Plane} (h : Dat w d W H p) {b o : Nat} (hb : b ≠ d) (v : Value) : Dat (w.setCell ⟨b, o, none⟩ v) d W H p := by
  obtain ⟨t, h1, h2⟩ := h
  exact ⟨t, h1.other hb v, h2⟩
theorem Dat.lt {w : World} {d W H : Nat} {p : Plane} (h : Dat w d W H p) (h1 : 0 < W) (h2 : 0 < H) : d < w.heap.size := by
  obtain ⟨t, h3, -⟩ := h
  exact h3.lt (Nat.mul_pos (by unfold strV; omega) h2)
theorem Dat.heap {w w' : World} {d W H : Nat} {p : Plane} (h : Dat w d W H p) (hb : w'.heap[d]? = w.heap[d]?) : Dat w' d W H p := by
  obtain ⟨t, h1, h2⟩ := h
  exact ⟨t, ⟨fun i hi => by rw [World.cell?_of_block (w := w) (a := ⟨d, i, none⟩) hb]; exact h1.at' i hi, fun o => by rw [World.frozen?_of_block (w := w) (a := ⟨d, o, none⟩) hb]; exact h1.fz o⟩, h2⟩
theorem FTab.heap {α : Type} {f : α → Value} {w w' : World} {g n : Nat} {t : Nat → α} (h : FTab f w g n t) (hb : w'.heap[g]? = w.heap[g]?) : FTab f w' g n t :=
  ⟨fun i hi => by rw [World.cell?_of_block (w := w) (a := ⟨g, i, none⟩) hb]; exact h.at' i hi, fun o => by rw [World.frozen?_of_block (w := w) (a := ⟨g, o, none⟩) hb]; exact h.fz o⟩
theorem elemU8 : ElemType Try.prog 5 (.int .u8 0) 1 1 := ElemType.mk (by kernel_rfl) rfl (by decide)
/-! ### Three cells of a block -/
def outF (x y z : Value) : Nat → Value
  | 0 => x
  | 1 => y
  | _ => z
def T3 (w : World) (g : Nat) (x y z : Value) : Prop := FTab (fun v : Value => v) w g 3 (outF x y z)
section
variable {w w' : World} {g : Nat} {x y z : Value}
theorem T3.c0 (h : T3 w g x y z) : w.cell? ⟨g, 0, none⟩ = some x := h.at' 0 (by omega)
theorem T3.c1 (h : T3 w g x y z) : w.cell? ⟨g, 1, none⟩ = some y := h.at' 1 (by omega)
theorem T3.c2 (h : T3 w g x y z) : w.cell? ⟨g, 2, none⟩ = some z := h.at' 2 (by omega)
theorem T3.fr (h : T3 w g x y z) (o : Nat) : w.frozen? ⟨g, o, none⟩ = false := h.fz o
theorem T3.lt (h : T3 w g x y z) : g < w.heap.size := FTab.lt h (by omega)
theorem T3.below (h : T3 w g x y z) (hb : Below w.heap.size w w') : T3 w' g x y z := FTab.below h hb h.lt
theorem T3.drewN (h : T3 w g x y z) (n : Nat) : T3 (w.drewN n) g x y z := FTab.drewN h n
theorem T3.drew (h : T3 w g x y z) : T3 w.drew g x y z := FTab.drew h
theorem T3.heap (h : T3 w g x y z) (hb : w'.heap[g]? = w.heap[g]?) : T3 w' g x y z :=
  ⟨fun i hi => by rw [World.cell?_of_block (w := w) (a := ⟨g, i, none⟩) hb]; exact h.at' i hi, fun o => by rw [World.frozen?_of_block (w := w) (a := ⟨g, o, none⟩) hb]; exact h.fz o⟩
theorem T3.new (w : World) (x y z : Value) (t : TypeId) : T3 (w.alloc (.cells #[x, y, z] t)) w.heap.size x y z := by
  refine ⟨fun i hi => ?_, fun o => ?_⟩
  · rw [cell_of_row _ w.heap.size i _ _ (0, 0) (heap_alloc_new w _)]
    match i, hi with
    | 0, _ => rfl
    | 1, _ => rfl
    | 2, _ => rfl
  · unfold World.frozen?
    rw [heap_alloc_new]
    simp
end
/-- Only block d is another. -/
structure Only (d : Nat) (w w' : World) : Prop where
  hp : ∀ k, k ≠ d → w'.heap[k]? = w.heap[k]?
  sz : w'.heap.size = w.heap.size
  bel : ∀ {B : Nat} {w0 : World}, Below B w0 w → B ≤ d → Below B w0 w'
theorem Only.set (w : World) (d o : Nat) (v : Value) : Only d w (w.setCell ⟨d, o, none⟩ v) :=
  ⟨fun k hk => Below.heap_setCell _ _ _ _ hk, by simp, fun hb hl => hb.setCell (p := ⟨d, o, none⟩) hl _⟩
theorem Only.trans {d : Nat} {w w1 w2 : World} (h : Only d w w1) (h2 : Only d w1 w2) : Only d w w2 :=
  ⟨fun k hk => (h2.hp k hk).trans (h.hp k hk), h2.sz.trans h.sz, fun hb hl => h2.bel (h.bel hb hl) hl⟩
theorem Only.drewN {d : Nat} {w w1 : World} (h : Only d w w1) (n : Nat) : Only d w (w1.drewN n) :=
  ⟨h.hp, h.sz, fun hb hl => bdrewN (h.bel hb hl) n⟩
theorem Only.drew {d : Nat} {w w1 : World} (h : Only d w w1) : Only d w w1.drew :=
  ⟨h.hp, h.sz, fun hb hl => (h.bel hb hl).drew⟩
/-- Three cells are stored. -/
def resW (W : World) (t : Nat) (x y z : Value) : World := ((W.setCell ⟨t, 0, none⟩ x).setCell ⟨t, 1, none⟩ y).setCell ⟨t, 2, none⟩ z
theorem outF_all (x y z x0 y0 z0 : Value) : ∀ i, i < 3 → (fun j => if j = 2 then z else (fun j => if j = 1 then y else (fun j => if j = 0 then x else outF x0 y0 z0 j) j) j) i = outF x y z i := fun i hi => by
  match i, hi with
  | 0, _ => rfl
  | 1, _ => rfl
  | 2, _ => rfl
theorem res_set {W : World} {t : Nat} {x y z x0 y0 z0 : Value} (h : T3 W t x0 y0 z0) : T3 (resW W t x y z) t x y z ∧ Only t W (resW W t x y z) :=
  ⟨(((FTab.set h (i := 0) (by omega) x).set (i := 1) (by omega) y).set (i := 2) (by omega) z).congr (outF_all x y z x0 y0 z0),
    ((Only.set W t 0 x).trans (Only.set _ t 1 y)).trans (Only.set _ t 2 z)⟩
/-! ### The walks -/
set_option maxHeartbeats 400000 in
theorem stride_any (W : Nat) (hW : W ≤ 1000000) (w : World) : Calls Try.prog 35 #[.int .i64 W] w fun e w' => e = .returned (.int .i64 (strV W)) ∧ w = w' := by
  have h1 : ((strV W : Nat) : Int) = ((W : Int) + 7) / 8 := by unfold strV; omega
  have HE := Lib.hid h1
  clear h1
  go_enter Try.func35, Try.ntmps35
  go_wp2
  go_ret
  exact ⟨by rw [HE.out]; rfl, rfl⟩
end Go.Proofs.Ytcadgjhfdolejaa
