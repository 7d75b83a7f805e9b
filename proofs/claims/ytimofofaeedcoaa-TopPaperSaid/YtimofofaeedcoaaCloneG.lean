/-
  slices.Clone at []int: its walk. Own text.
-/
import Derived.Test.YtimofofaeedcoaaFTab
import Derived.Test.YtimofofaeedcoaaGang2
import Derived.Handy
import Derived.WalkSpells
namespace Go.Proofs.Ytimofofaeedcoaa
open Go.RowKit
set_option linter.unusedVariables false
/-- Returns a new array that the call owns. -/
def RetCloneI (xs : List Int) (w : World) (e : Ending) (w' : World) : Prop := ∃ g cap, e = .returned (.slice (some ⟨g, 0, none⟩) xs.length cap) ∧ Arr w' w.heap.size 3 (Value.int .i64) g cap xs ∧ Below w.heap.size w w'
theorem Own.arr {w : World} {base : Nat} {e : TypeId} {v : Value} {xs : List Int} (h : Own w base e 1 encInt v xs) (h0 : 0 < xs.length) : ∃ g cap, v = .slice (some ⟨g, 0, none⟩) xs.length cap ∧ Arr w base e (Value.int .i64) g cap xs := by
  have h1 : Own w base e 1 (enc1 (Value.int .i64)) v xs := h
  rcases h.2 with ⟨ev, hn⟩ | ⟨g, cap, cur, ev, _⟩
  · exfalso
    omega
  · subst ev
    exact ⟨g, cap, rfl, h1⟩
set_option maxHeartbeats 1000000 in
theorem cloneInts (ad : Addr) (xs : List Int) (cap : Nat) (w : World) (h0 : 0 < xs.length) (hm : xs.length ≤ 100) (hx : Flat w 1 encInt (some ad) xs) :
    Calls Try.prog 20 #[.slice (some ad) xs.length cap] w (RetCloneI xs w) := by
  have hq : ∀ (w : World) (a : Option Addr) (n c n' c' : Nat), (binOp .eql 23 (.slice a n c) (.slice none n' c')).run Try.prog w = .ok (.bool a.isNone) w := fun w a n c n' c' => Lib.run_eql_slice_nil w _ _ a n c n' c' Try.underlying23
  have hb0 := balloc (Below.refl _ w) (.cells #[] 3)
  have hown := Own.lit w w.heap.size 1 encInt [] 3 (fun _ => rfl) (by decide) (Nat.le_refl _)
  have hxa := hx.below hb0
  have HS := Lib.hid (show IsSlice (w.alloc (.cells #[] 3)) 1 encInt (.slice (some ad) xs.length cap) xs from ⟨_, _, rfl, (fun h => by cases h), by unfold maxLen; omega, hxa⟩)
  clear hx hxa
  go_enter Try.func20, Try.ntmps20
  go_wp2_with (at_builtin; go_must (refine wpList_appRow rfl (.tmp 5) (.tmp 6) 23 rfl elemInt Try.underlying23 w.heap.size _ [] encInt rfl hown xs _ rfl HS.out (fun _ => rfl) ?c1 ?c2 ?c3 ?c4 ?_))
  case c1 => intro y; simp [encInt, Value.oneCell']
  case c2 => simp; omega
  case c3 => simp; unfold maxLen; omega
  case c4 => simp
  intro v' w3 hown3 hg3
  have HF : Hid (RetCloneI xs w (.returned v') w3) := by
    obtain ⟨g, c, rfl, ha⟩ := Own.arr (xs := xs) hown3 h0
    exact ⟨g, c, rfl, ha, hown.grown hb0 (Nat.le_refl _) hg3⟩
  clear hown3 hg3 hown
  go_wp2
  go_ret
  exact HF.out
/-- Returns a new table. -/
def RetCloneT (n : Nat) (t : Nat → Int) (w : World) (e : Ending) (w' : World) : Prop := ∃ g cap, e = .returned (.slice (some ⟨g, 0, none⟩) n cap) ∧ FTab (Value.int .i64) w' g n t ∧ w.heap.size ≤ g ∧ g < w'.heap.size ∧ Below w.heap.size w w'
theorem FTab.flat {w : World} {g n k : Nat} {t : Nat → Int} (h : FTab (Value.int .i64) w g n t) (q : Nat) (hq : k + q ≤ n) : Flat w 1 encInt (some ⟨g, q, none⟩) ((List.range k).map fun i => t (i + q)) := by
  intro i hi j hj
  simp only [List.length_map, List.length_range] at hi
  obtain rfl : j = 0 := by omega
  refine ⟨.int .i64 (t (i + q)), by simp [encInt], g, q, rfl, ?_⟩
  rw [Nat.mul_one, Nat.add_zero, Nat.add_comm]
  exact h.at' _ (by omega)
theorem cloneTab (g k n cap q : Nat) (t : Nat → Int) (w : World) (h0 : 0 < k) (hm : k ≤ 100) (hx : FTab (Value.int .i64) w g n t) (hq : k + q ≤ n) :
    Calls Try.prog 20 #[.slice (some ⟨g, q, none⟩) k cap] w (RetCloneT k (fun i => t (i + q)) w) := by
  have hl : ((List.range k).map fun i => t (i + q)).length = k := by simp
  have h := cloneInts ⟨g, q, none⟩ ((List.range k).map fun i => t (i + q)) cap w (by rw [hl]; exact h0) (by rw [hl]; exact hm) (hx.flat q hq)
  rw [hl] at h
  refine h.mono ?_
  rintro e w' ⟨g', c, rfl, ha, hb⟩
  rw [hl]
  refine ⟨g', c, rfl, ⟨fun i hi => ?_, fun o => ha.frozen o⟩, ha.lt.1, ha.lt.2, hb⟩
  rw [ha.cell (by rw [hl]; exact hi)]
  simp
end Go.Proofs.Ytimofofaeedcoaa
