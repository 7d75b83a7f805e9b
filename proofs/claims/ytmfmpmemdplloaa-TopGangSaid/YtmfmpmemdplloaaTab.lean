/-
  cut.table: its cells; of. Own text.
-/
import Derived.Test.YtmfmpmemdplloaaBestV
import Derived.Test.YtmfmpmemdplloaaTreeMk
import Derived.Handy
namespace Go.Proofs.Ytmfmpmemdplloaa
open Go.RowKit
set_option linter.unusedVariables false
/-- A choice at a block's cell. -/
structure ChAt (w : World) (b o : Nat) (c : Choice) : Prop where
  v : w.cell? ⟨b, o, none⟩ = some (.int .i64 c.value)
  k : w.cell? ⟨b, o + 1, none⟩ = some (.int .i64 c.kind)
  a : w.cell? ⟨b, o + 2, none⟩ = some (.int .i64 c.at')
  t : w.cell? ⟨b, o + 3, none⟩ = some (.int .i64 c.item)
/-- The table at block g: n choices. -/
structure Tab (w : World) (g n : Nat) (f : Nat → Choice) : Prop where
  at' : ∀ i, i < n → ChAt w g (i * 4) (f i)
  fz : ∀ o, w.frozen? ⟨g, o, none⟩ = false
theorem ChAt.below {w w' : World} {B b o : Nat} {c : Choice} (h : ChAt w b o c) (hb : Below B w w') (hl : b < B) : ChAt w' b o c := by
  obtain ⟨h1, h2, h3, h4⟩ := h
  exact ⟨by rw [hb.cell (p := ⟨b, o, none⟩) hl]; exact h1, by rw [hb.cell (p := ⟨b, o + 1, none⟩) hl]; exact h2, by rw [hb.cell (p := ⟨b, o + 2, none⟩) hl]; exact h3, by rw [hb.cell (p := ⟨b, o + 3, none⟩) hl]; exact h4⟩
theorem Tab.below {w w' : World} {B g n : Nat} {f : Nat → Choice} (h : Tab w g n f) (hb : Below B w w') (hl : g < B) : Tab w' g n f :=
  ⟨fun i hi => (h.at' i hi).below hb hl, fun o => by rw [hb.frozen (p := ⟨g, o, none⟩) hl]; exact h.fz o⟩
theorem ChAt.lt {w : World} {b o : Nat} {c : Choice} (h : ChAt w b o c) : b < w.heap.size := cell?_lt h.v
theorem cell_set_ne {w : World} {g o o' : Nat} {v : Value} (h : o ≠ o') : (w.setCell ⟨g, o', none⟩ v).cell? ⟨g, o, none⟩ = w.cell? ⟨g, o, none⟩ := by
  go_simp
/-- A choice is stored into the table. -/
theorem Tab.set {w : World} {g n : Nat} {f : Nat → Choice} (h : Tab w g n f) {i : Nat} (hi : i < n) (c : Choice) :
    Tab ((((w.setCell ⟨g, i * 4, none⟩ (.int .i64 c.value)).setCell ⟨g, i * 4 + 1, none⟩ (.int .i64 c.kind)).setCell ⟨g, i * 4 + 2, none⟩ (.int .i64 c.at')).setCell ⟨g, i * 4 + 3, none⟩ (.int .i64 c.item)) g n (fun j => if j = i then c else f j) := by
  obtain ⟨a1, a2, a3, a4⟩ := h.at' i hi
  have f0 := h.fz (i * 4)
  refine ⟨fun j hj => ?_, fun o => ?_⟩
  · by_cases e : j = i
    · subst e
      simp only [if_pos]
      refine ⟨?_, ?_, ?_, ?_⟩
      all_goals go_simp
    · simp only [if_neg e]
      obtain ⟨b1, b2, b3, b4⟩ := h.at' j hj
      refine ⟨?_, ?_, ?_, ?_⟩
      all_goals
        rw [cell_set_ne (by omega), cell_set_ne (by omega), cell_set_ne (by omega), cell_set_ne (by omega)]
        assumption
  · have := h.fz o
    go_simp
theorem field0 (a b c d : Int) (w : World) : (Instr.field 51 (.agg #[.int .i64 a, .int .i64 b, .int .i64 c, .int .i64 d]) 0).run Try.prog w = .ok (.int .i64 a) w := by kernel_rfl
def RetChoice (c : Choice) (w : World) (e : Ending) (w' : World) : Prop :=
  e = .returned (.agg #[.int .i64 c.value, .int .i64 c.kind, .int .i64 c.at', .int .i64 c.item]) ∧ Below w.heap.size w w'
set_option maxHeartbeats 1000000 in
theorem of_any (H x y : Nat) (X Y : Int) (hX : X = x) (hY : Y = y) (g n cap : Nat) (f : Nat → Choice) (w : World) (hT : Tab w g n f) (hH : H ≤ 40) (hx : x ≤ 40) (hy : y ≤ 40) (hn : n ≤ 1681) (hi : x * (H + 1) + y < n) :
    Calls Try.prog 13 #[.agg #[.int .i64 H, .slice (some ⟨g, 0, none⟩) n cap], .int .i64 X, .int .i64 Y] w (RetChoice (f (x * (H + 1) + y)) w) := by
  subst hX hY
  obtain ⟨r, hr⟩ : ∃ r, r = x * (H + 1) := ⟨_, rfl⟩
  rw [← hr] at hi ⊢
  have g1 : IntKind.i64.wrap ((x : Int) * ((H : Int) + 1)) = (r : Int) := by
    have e : ((x : Int) * ((H : Int) + 1)) = (r : Int) := by rw [hr]; simp
    rw [e]
    exact IntWalk.i64_in _ (by omega)
  obtain ⟨c1, c2, c3, c4⟩ := hT.at' (r + y) hi
  have hlt := cell?_lt c1
  clear hr
  go_enter Try.func13, Try.ntmps13
  go_wp2
  go_returns
  exact ⟨rfl, by go_grown⟩
end Go.Proofs.Ytmfmpmemdplloaa
