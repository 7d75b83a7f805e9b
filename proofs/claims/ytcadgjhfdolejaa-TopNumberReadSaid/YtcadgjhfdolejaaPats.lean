/-
  The walk of linear.patterns. Own text.
-/
import Derived.Test.YtcadgjhfdolejaaPat
namespace Go.Proofs.Ytcadgjhfdolejaa
open Go.RowKit
set_option linter.unusedVariables false
/-- The symbols' widths. -/
def patV : List Pt := (genV 5 [] 11).take 103
theorem gen_count : (genV 5 [] 11).length = 108 := by decide +kernel
def RetPats (w : World) (e : Ending) (w' : World) : Prop := ∃ g c, e = .returned (.slice (some ⟨g, 0, none⟩) 103 c) ∧ 103 ≤ c ∧ Flat w' 6 encPt (some ⟨g, 0, none⟩) patV ∧ w.heap.size ≤ g ∧ g < w'.heap.size ∧ Below w.heap.size w w'
theorem Own.cap {α : Type} {w : World} {base : Nat} {e : TypeId} {k : Nat} {enc : α → List Value} {v : Value} {xs : List α} (h : Own w base e k enc v xs) (hn : xs ≠ []) : ∃ g cap, v = .slice (some ⟨g, 0, none⟩) xs.length cap ∧ xs.length ≤ cap ∧ base ≤ g ∧ g < w.heap.size := by
  rcases h.2 with ⟨rfl, hn2⟩ | ⟨g, cap, cur, rfl, hbg, hg, hle, _⟩
  · exact absurd (List.eq_nil_of_length_eq_zero hn2) hn
  · exact ⟨g, cap, rfl, hle, hbg, (Array.getElem?_eq_some_iff.1 hg).1⟩
set_option maxRecDepth 100000 in
set_option maxHeartbeats 8000000 in
theorem pats_any (w : World) : Calls Try.prog 31 #[] w (RetPats w) := by
  obtain ⟨W3, hW3⟩ : ∃ W3, W3 = ((w.alloc (.cells #[.slice none 0 0] 75)).alloc (.cells #[.int .i64 0, .int .i64 0, .int .i64 0, .int .i64 0, .int .i64 0, .int .i64 0] 77)).alloc (.cells #[.nilFunc] 85) := ⟨_, rfl⟩
  have HW3 : Hid (((w.alloc (.cells #[.slice none 0 0] 75)).alloc (.cells #[.int .i64 0, .int .i64 0, .int .i64 0, .int .i64 0, .int .i64 0, .int .i64 0] 77)).alloc (.cells #[.nilFunc] 85) = W3) := hW3.symm
  have hz3 : W3.heap.size = w.heap.size + 1 + 1 + 1 := by rw [hW3]; simp
  have hB3 : Below w.heap.size w W3 := by rw [hW3]; exact balloc (balloc (balloc (Below.refl _ _) _) _) _
  have k1 : Boxed W3 w.heap.size 75 (.slice none 0 0) := by rw [hW3]; exact ((Boxed.new w _ _).alloc _).alloc _
  have k3 : Boxed W3 (w.heap.size + 1 + 1) 85 .nilFunc := by
    have h := Boxed.new ((w.alloc (.cells #[.slice none 0 0] 75)).alloc (.cells #[.int .i64 0, .int .i64 0, .int .i64 0, .int .i64 0, .int .i64 0, .int .i64 0] 77)) 85 .nilFunc
    rw [World.size_alloc, World.size_alloc] at h
    rw [hW3]; exact h
  have k2 : FTab (Value.int .i64) W3 (w.heap.size + 1) 6 (fun _ => 0) := by
    have h0 := World.alloc_heap_new (w.alloc (.cells #[.slice none 0 0] 75)) (.cells #[.int .i64 0, .int .i64 0, .int .i64 0, .int .i64 0, .int .i64 0, .int .i64 0] 77)
    rw [World.size_alloc] at h0
    refine FTab.heap (w := (w.alloc (.cells #[.slice none 0 0] 75)).alloc (.cells #[.int .i64 0, .int .i64 0, .int .i64 0, .int .i64 0, .int .i64 0, .int .i64 0] 77)) ⟨fun i hi => ?_, fun o => by unfold World.frozen?; rw [h0]; rfl⟩ ?_
    · rw [cell_of_row _ _ i _ _ (0, 0) h0]
      match i, hi with
      | 0, _ => rfl
      | 1, _ => rfl
      | 2, _ => rfl
      | 3, _ => rfl
      | 4, _ => rfl
      | 5, _ => rfl
    · rw [hW3]
      exact (World.grownBy_alloc _ _ none).block _ (by simp) (by simp)
  obtain ⟨W4, hW4⟩ : ∃ W4, W4 = W3.setCell ⟨w.heap.size + 1 + 1, 0, none⟩ (patF w.heap.size (w.heap.size + 1) (w.heap.size + 1 + 1)) := ⟨_, rfl⟩
  have HW4 : Hid (W3.setCell ⟨w.heap.size + 1 + 1, 0, none⟩ (patF w.heap.size (w.heap.size + 1) (w.heap.size + 1 + 1)) = W4) := hW4.symm
  have HC : Hid (PatC w.heap.size (w.heap.size + 1 + 1 + 1) w.heap.size (w.heap.size + 1) (w.heap.size + 1 + 1)) := ⟨by omega, by omega, by omega, by omega, by omega, by omega⟩
  have hset := grownBy_setCell' W3 (w.heap.size + 1 + 1) (patF w.heap.size (w.heap.size + 1) (w.heap.size + 1 + 1))
  have HM : Hid (PatM w.heap.size (w.heap.size + 1 + 1 + 1) w.heap.size (w.heap.size + 1) (w.heap.size + 1 + 1) w W4 [] []) := by
    rw [hW4]
    exact ⟨hB3.trans ((Below.refl _ W3).setCell (p := ⟨w.heap.size + 1 + 1, 0, none⟩) (by show w.heap.size ≤ w.heap.size + 1 + 1; omega) _), ⟨_, k1.kept hset (fun e => by simp at e; omega), Own.nil _ _ _ _ _⟩, ⟨_, k2.kept (by omega) hset (fun e => by simp at e), fun i hi => by simp at hi⟩, k3.set _, by rw [World.size_setCell]; omega⟩
  have HFR : Hid (∀ wr, PatM w.heap.size (w.heap.size + 1 + 1 + 1) w.heap.size (w.heap.size + 1) (w.heap.size + 1 + 1) w wr [] (genV 5 [] 11) → ∃ g cap, wr.cell? ⟨w.heap.size, 0, none⟩ = some (.slice (some ⟨g, 0, none⟩) 108 cap) ∧ 108 ≤ cap ∧ RetPats w (.returned (.slice (some ⟨g, 0, none⟩) 103 cap)) wr) := by
    intro wr hm
    obtain ⟨v, hb, ho⟩ := hm.tab
    obtain ⟨g, cap, rfl, hc, hg, hg2⟩ := Own.cap ho (by intro e; have h := gen_count; rw [e] at h; cases h)
    have hfl := (Own.flat ho (fun _ => rfl))
    obtain ⟨oa, cap2, e, -, hf⟩ := hfl
    have h9 := hb.cell
    rw [gen_count] at hc h9 e
    cases e
    refine ⟨g, cap, h9, hc, g, cap, rfl, by omega, ?_, by omega, hg2, hm.bel⟩
    have h := hf.cut 0 103
    rw [Nat.zero_mul, List.drop_zero] at h
    exact h
  have HCL := Lib.hid (pat_any w.heap.size (w.heap.size + 1 + 1 + 1) w.heap.size (w.heap.size + 1) (w.heap.size + 1 + 1) w HC.out 5 [] 11 rfl (by simp) (by omega) [] (by decide) W4 HM.out)
  have f3 := k3.frozen
  have c3 := k3.cell
  have hfn := HM.out.fn.cell
  unfold patF at HW4 hfn
  clear hW3 hz3 hB3 k1 k2 k3 hW4 hset
  have hst : ∀ (W' : World) (a : Addr) (fn : Fn) (f c : Array Value) (m : Mode), (store a (.func fn f c) m).run Try.prog W' = stored Try.prog W' a (.func fn f c) m := fun W' a fn f c m => run_store Try.prog W' a (.func fn f c) m rfl
  go_enter Try.func31, Try.ntmps31
  go_upto_region 4 with fail
  rw [HW3.out]
  clear HW3
  go_upto_region 5 with fail
  rw [HW4.out]
  clear HW4
  go_wp2_with fail
  refine HCL.out.mono ?_
  rintro e w2 ⟨rfl, hm2⟩
  rw [List.nil_append] at hm2
  obtain ⟨g, cap, hcc, hc9, hret⟩ := HFR.out w2 hm2
  have HR := Lib.hid hret
  clear hret hm2 HFR HCL HC HM
  go_wp2
  go_ret
  exact HR.out
end Go.Proofs.Ytcadgjhfdolejaa
