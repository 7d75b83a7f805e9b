/-
  The plain side of the search's run. Own text.
-/
import Derived.Test.YtiokmfmcmfbjoaaBefore
namespace Go.Proofs.Ytiokmfmcmfbjoaa
open Go.RowKit
set_option linter.unusedVariables false
/-- A box of candidates. -/
def BoxOk (d : Nat) (st : Int) (F T : Nat → Int) : Prop := ∀ i, i < d → 0 ≤ F i ∧ F i ≤ T i ∧ T i * st ≤ 255
theorem BoxOk.le {d : Nat} {st : Int} {F T : Nat → Int} (h : BoxOk d st F T) (hst : 1 ≤ st) {i : Nat} (hi : i < d) : T i ≤ 255 := by
  obtain ⟨h1, h2, h3⟩ := h i hi
  have : T i * 1 ≤ T i * st := Int.mul_le_mul_of_nonneg_left hst (by omega)
  omega
/-- The first loop behind k axes. -/
structure RunL (F T : Nat → Int) (k : Nat) (sum wide : Int) (axis : Nat) : Prop where
  s : 0 ≤ sum ∧ sum ≤ (k : Int) * 255
  w : 0 ≤ wide ∧ wide ≤ 255
  all : ∀ i, i < k → T i - F i ≤ wide
  ax : wide ≠ 0 → axis < k ∧ T axis - F axis = wide
theorem RunL.start (F T : Nat → Int) : RunL F T 0 0 0 0 := ⟨⟨by omega, by omega⟩, ⟨by omega, by omega⟩, fun i hi => by omega, fun h => absurd rfl h⟩
theorem RunL.wider {F T : Nat → Int} {k : Nat} {sum wide x : Int} {axis : Nat} (h : RunL F T k sum wide axis) (hx : 0 ≤ x ∧ x ≤ 255) (hT : T k ≤ 255) (hF : 0 ≤ F k) (hw : wide < T k - F k) : RunL F T (k + 1) (sum + x) (T k - F k) k := by
  obtain ⟨h1, h2, h3, h4⟩ := h
  refine ⟨⟨by omega, by omega⟩, ⟨by omega, by omega⟩, fun i hi => ?_, fun _ => ⟨by omega, rfl⟩⟩
  by_cases e : i = k
  · subst e; omega
  · have := h3 i (by omega); omega
theorem RunL.same {F T : Nat → Int} {k : Nat} {sum wide x : Int} {axis : Nat} (h : RunL F T k sum wide axis) (hx : 0 ≤ x ∧ x ≤ 255) (hw : ¬ wide < T k - F k) : RunL F T (k + 1) (sum + x) wide axis := by
  obtain ⟨h1, h2, h3, h4⟩ := h
  refine ⟨⟨by omega, by omega⟩, h2, fun i hi => ?_, fun h => ⟨by have := h4 h; omega, (h4 h).2⟩⟩
  by_cases e : i = k
  · subst e; omega
  · exact h3 i (by omega)
/-- The width of a box. -/
def widthV (F T : Nat → Int) : Nat → Int
  | 0 => 0
  | d + 1 => widthV F T d + (T d - F d)
theorem widthV_nonneg {F T : Nat → Int} : ∀ d, (∀ i, i < d → F i ≤ T i) → 0 ≤ widthV F T d
  | 0, _ => Int.le_refl _
  | d + 1, h => by
    have h1 := widthV_nonneg d fun i hi => h i (by omega)
    have h2 := h d (by omega)
    show 0 ≤ widthV F T d + (T d - F d)
    omega
theorem widthV_lt {F T F' T' : Nat → Int} : ∀ d, (∀ i, i < d → T' i - F' i ≤ T i - F i) → widthV F' T' d ≤ widthV F T d ∧ ((∃ i, i < d ∧ T' i - F' i < T i - F i) → widthV F' T' d < widthV F T d)
  | 0, _ => ⟨Int.le_refl _, fun ⟨i, hi, _⟩ => by omega⟩
  | d + 1, h => by
    obtain ⟨h1, h2⟩ := widthV_lt d fun i hi => h i (by omega)
    have h3 := h d (by omega)
    constructor
    · show widthV F' T' d + (T' d - F' d) ≤ widthV F T d + (T d - F d)
      omega
    · intro ⟨i, hi, hlt⟩
      show widthV F' T' d + (T' d - F' d) < widthV F T d + (T d - F d)
      by_cases e : i = d
      · subst e; omega
      · have := h2 ⟨i, by omega, hlt⟩
        omega
def setAt (a : Nat) (v : Int) (f : Nat → Int) (i : Nat) : Int := if i = a then v else f i
theorem setAt_self {a : Nat} {v : Int} {f : Nat → Int} : setAt a v f a = v := if_pos rfl
theorem setAt_ne {a i : Nat} {v : Int} {f : Nat → Int} (h : i ≠ a) : setAt a v f i = f i := if_neg h
section
variable {d a : Nat} {st : Int} {F T : Nat → Int} {mid : Int}
theorem BoxOk.low (h : BoxOk d st F T) (hst : 1 ≤ st) (h1 : F a ≤ mid) (h2 : mid < T a) : BoxOk d st F (setAt a mid T) := fun i hi => by
  by_cases e : i = a
  · subst e
    rw [setAt_self]
    obtain ⟨q1, q2, q3⟩ := h i hi
    have : mid * st ≤ T i * st := Int.mul_le_mul_of_nonneg_right (by omega) (by omega)
    exact ⟨q1, h1, by omega⟩
  · rw [setAt_ne e]; exact h i hi
theorem BoxOk.high (h : BoxOk d st F T) (h1 : F a ≤ mid) (h2 : mid < T a) : BoxOk d st (setAt a (mid + 1) F) T := fun i hi => by
  by_cases e : i = a
  · subst e
    rw [setAt_self]
    obtain ⟨q1, q2, q3⟩ := h i hi
    exact ⟨by omega, by omega, q3⟩
  · rw [setAt_ne e]; exact h i hi
theorem width_low (ha : a < d) (h2 : mid < T a) : widthV F (setAt a mid T) d < widthV F T d :=
  (widthV_lt d fun i hi => by
    by_cases e : i = a
    · subst e; rw [setAt_self]; omega
    · rw [setAt_ne e]; omega).2 ⟨a, ha, by rw [setAt_self]; omega⟩
theorem width_high (ha : a < d) (h1 : F a ≤ mid) : widthV (setAt a (mid + 1) F) T d < widthV F T d :=
  (widthV_lt d fun i hi => by
    by_cases e : i = a
    · subst e; rw [setAt_self]; omega
    · rw [setAt_ne e]; omega).2 ⟨a, ha, by rw [setAt_self]; omega⟩
theorem inB_part {m : Nat → Int} (h : InB d F T m) : InB d F (setAt a mid T) m ∨ InB d (setAt a (mid + 1) F) T m := by
  by_cases e : m a ≤ mid
  · left
    intro i hi
    by_cases e2 : i = a
    · subst e2; rw [setAt_self]; exact ⟨(h i hi).1, e⟩
    · rw [setAt_ne e2]; exact h i hi
  · right
    intro i hi
    by_cases e2 : i = a
    · subst e2; rw [setAt_self]; exact ⟨by omega, (h i hi).2⟩
    · rw [setAt_ne e2]; exact h i hi
end
/-- Is there a best candidate. -/
def HasB (bv : Value) (x : Bool) : Prop := x = true ↔ bv ≠ .slice none 0 0
/-- What run leaves behind. -/
def RetRun (w0 : World) (b ba bs bl bh bf bt d : Nat) (st : Int) (dist : (Nat → Int) → Int) (F T : Nat → Int) (bv : Value) (far : Int) (m : Nat → Int) (e : Ending) (w' : World) : Prop :=
  ∃ (lo hi : Nat → Int) (bv' : Value) (far' : Int), e = .returned (.tuple #[]) ∧ SrcA w0 b ba bs bl bh bf bt d st dist F T lo hi bv' far' w' ∧ (bv ≠ .slice none 0 0 → bv' ≠ .slice none 0 0 ∧ far' ≤ far) ∧ (InB d F T m → bv' ≠ .slice none 0 0 ∧ far' = 0)
theorem BestAt.nonneg {bs bl bh bf bt d : Nat} {st : Int} {dist : (Nat → Int) → Int} {bv : Value} {far : Int} {W : World} (h : BestAt bs bl bh bf bt d st dist bv far W) (hn : bv ≠ .slice none 0 0) : 0 ≤ far := by
  rcases h with h | ⟨g, m, h0, h1, h2, h3, h4, h5, h6, h7, h8, h9, h10⟩
  · exact absurd h hn
  · exact h10
theorem distV_nonneg (P : Prof) (d : Nat) (st : Int) (tv m : Nat → Int) : 0 ≤ distV P d st tv m := by
  have sq : ∀ p : Int, 0 ≤ p * p := fun p => by
    rcases Int.le_total 0 p with h | h
    · exact Int.mul_nonneg h h
    · have := Int.mul_nonneg (show 0 ≤ -p by omega) (show 0 ≤ -p by omega)
      rwa [Int.neg_mul_neg] at this
  unfold distV
  have h1 := sq (labV P (candL d st m) 0 - tv 0)
  have h2 := sq (labV P (candL d st m) 1 - tv 1)
  have h3 := sq (labV P (candL d st m) 2 - tv 2)
  omega
theorem candL_congr {d : Nat} {st : Int} {m m' : Nat → Int} (h : ∀ i, i < d → m i = m' i) : candL d st m = candL d st m' := by
  unfold candL
  exact List.map_congr_left fun i hi => by rw [h i (List.mem_range.1 hi)]
theorem distV_self {P : Prof} {d : Nat} {st : Int} {tv m F : Nat → Int} (htv : ∀ o, o < 3 → tv o = labV P (candL d st m) o) (h : ∀ i, i < d → F i = m i) : distV P d st tv F = 0 := by
  unfold distV
  rw [candL_congr h, htv 0 (by omega), htv 1 (by omega), htv 2 (by omega)]
  simp
theorem labV_bd {P : Prof} (hok : OkProf P) (ts : List Int) (o : Nat) : -65535 ≤ labV P ts o ∧ labV P ts o ≤ 65535 := by
  obtain ⟨s1, _⟩ := hok.step
  unfold labV
  exact quickV_bd (low := fineL P ts) (high := fineL P ts) (by omega) (fun i _ => ⟨Int.le_refl _, Int.le_refl _⟩) (fun c _ => valAt_bd hok _ _ c)
/-- 's == nil' of a slice. -/
theorem run_eql_nil (a : Option Addr) (l c : Nat) (W : World) : (binOp .eql 24 (.slice a l c) (.slice none 0 0)).run Try.prog W = .ok (.bool a.isNone) W := by
  simp only [binOp]
  simp [run_equal_slice_nil (P := Try.prog) W 24 3 a l c Try.underlying24]
end Go.Proofs.Ytiokmfmcmfbjoaa
