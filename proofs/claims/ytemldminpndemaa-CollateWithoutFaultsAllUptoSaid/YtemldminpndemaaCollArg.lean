/-
  The laws' arguments, opened. Own text.
-/
import Derived.Test.YtemldminpndemaaRows
import Derived.Test.YtemldminpndemaaOpen
import Derived.Test.YtemldminpndemaaRun
namespace Go.Proofs.Ytemldminpndemaa
open Go.ChangeShapes Go.WideShapes Go.ChangeAt Go.RowKit
set_option linter.unusedVariables false
theorem opens_slice0 {α : Type} {P : Program} {w : World} {t e : TypeId} {R : List Value → α → Prop} (ht : P.underlying t = some (.slice e)) (hk : 0 < P.cellsOf e) (he : Opens P w e R) :
    Opens P w t (fun cs (xs : List α) => ∃ oa cap, cs = [.slice oa xs.length cap] ∧ xs.length ≤ cap ∧ cap ≤ maxLen ∧ (oa = none → cap = 0) ∧ SliceR w (P.cellsOf e) R oa xs) := by
  intro H enc sp held fuel cs x h
  have h0 : ∀ c l, cs = [.slice none l c] → c = 0 := by
    intro c l hcs
    rcases Deep.open_slice ht h with ⟨rfl, _⟩ | ⟨a, len, cap, m, n, D, Pl, rfl, _⟩
    · simp at hcs; omega
    · simp at hcs
  obtain ⟨xs, oa, cap, h1, h2, h3, h4⟩ := opens_slice ht hk he H enc sp held fuel cs x h
  refine ⟨xs, oa, cap, h1, h2, h3, fun e0 => ?_, h4⟩
  subst e0
  exact h0 cap _ h1
theorem cellsPt : Try.prog.cellsOf 41 = 2 := by kernel_rfl
theorem cellsFt : Try.prog.cellsOf 34 = 3 := by kernel_rfl
theorem cellsRow : Try.prog.cellsOf 39 = 1 := by kernel_rfl
theorem cellsInt : Try.prog.cellsOf 3 = 1 := by kernel_rfl
theorem cellsBool : Try.prog.cellsOf 4 = 1 := by kernel_rfl
set_option maxRecDepth 100000 in
theorem opens_pt {w : World} : Opens Try.prog w 41 (fun cs (x : Pt) => cs = encPt x) := by
  intro H enc sp held fuel cs x h
  obtain ⟨xs, n, _, rfl, hl, hlen, hf⟩ := DataW.trod_struct Try.underlying41 h
  rw [cellsPt] at hl
  match cs, hl with
  | [a, b], _ =>
    have l2 : xs.length = 2 := hlen
    match xs, l2 with
    | [x0, x1], _ =>
      have e0 := hf 0 _ rfl
      have e1 := hf 1 _ rfl
      obtain ⟨p0, h0, _, _⟩ := DataW.trod_int Try.underlying3 (e0.trans rfl)
      obtain ⟨p1, h1, _⟩ := DataW.trod_bool Try.underlying4 (e1.trans rfl)
      simp [cellsInt, cellsBool] at h0 h1
      subst h0 h1
      exact ⟨⟨p0, p1⟩, rfl⟩
set_option maxRecDepth 100000 in
theorem opens_ft {w : World} : Opens Try.prog w 34 (fun cs (x : Ft) => cs = encFt x) := by
  intro H enc sp held fuel cs x h
  obtain ⟨xs, n, _, rfl, hl, hlen, hf⟩ := DataW.trod_struct Try.underlying34 h
  rw [cellsFt] at hl
  match cs, hl with
  | [a, b, d], _ =>
    have l3 : xs.length = 3 := hlen
    match xs, l3 with
    | [x0, x1, x2], _ =>
      have e0 := hf 0 _ rfl
      have e1 := hf 1 _ rfl
      have e2 := hf 2 _ rfl
      obtain ⟨p0, h0, _, _⟩ := DataW.trod_int Try.underlying3 (e0.trans rfl)
      obtain ⟨p1, h1, _, _⟩ := DataW.trod_int Try.underlying3 (e1.trans rfl)
      obtain ⟨p2, h2, _⟩ := DataW.trod_bool Try.underlying4 (e2.trans rfl)
      simp [cellsInt, cellsBool] at h0 h1 h2
      subst h0 h1 h2
      exact ⟨⟨p0, p1, p2⟩, rfl⟩
/-- A row as it lies: address and capacity. -/
def RowR (w : World) (cs : List Value) (xs : List Pt) : Prop := ∃ o c, cs = [.slice o xs.length c] ∧ xs.length ≤ c ∧ Flat w 2 encPt o xs
set_option maxRecDepth 100000 in
theorem opens_pts {w : World} : Opens Try.prog w 39 (RowR w) := by
  intro H enc sp held fuel cs x h
  obtain ⟨xs, oa, cap, h1, h2, h3, h4, h5⟩ := opens_slice0 Try.underlying39 (by rw [cellsPt]; omega) opens_pt H enc sp held fuel cs x h
  rw [cellsPt] at h5
  exact ⟨xs, oa, cap, h1, h2, h5.flat fun _ _ h => h⟩
/-- An argument of feeders. -/
def FeedArg (w : World) (v : Value) : Prop := ∃ (fs : List (List Pt)) (oa : Option Addr) (so : Nat → Option Addr) (sc : Nat → Nat) (cap : Nat), v = .slice oa fs.length cap ∧ fs.length ≤ maxLen ∧ fs.length ≤ cap ∧ Args w fs oa so sc ∧ ∀ k, k < fs.length → ln fs k ≤ sc k
theorem args_of {w : World} {fs : List (List Pt)} {oa : Option Addr} (h : SliceR w 1 (RowR w) oa fs) : ∃ so sc, Args w fs oa so sc ∧ ∀ k, k < fs.length → ln fs k ≤ sc k := by
  have h1 : ∀ k, ∃ q : Option Addr × Nat, ∀ hk : k < fs.length, (∃ b off, oa = some ⟨b, off, none⟩ ∧ w.cell? ⟨b, off + k, none⟩ = some (.slice q.1 fs[k].length q.2)) ∧ Flat w 2 encPt q.1 fs[k] ∧ fs[k].length ≤ q.2 := fun k => by
    by_cases hk : k < fs.length
    · obtain ⟨b, off, cs, e1, e2, e3, o, c, rfl, e4, e5⟩ := h k hk
      have e6 := e3 0 _ rfl
      exact ⟨(o, c), fun _ => ⟨⟨b, off, e1, by simpa using e6⟩, e5, e4⟩⟩
    · exact ⟨(none, 0), fun h => absurd h hk⟩
  obtain ⟨q, hq⟩ := Classical.axiomOfChoice h1
  refine ⟨fun k => (q k).1, fun k => (q k).2, ⟨fun k hk => ?_, fun k hk => (hq k hk).2.1⟩, fun k hk => ?_⟩
  · rw [ln_get fs k hk]
    exact (hq k hk).1
  · rw [ln_get fs k hk]
    exact (hq k hk).2.2
set_option maxRecDepth 100000 in
theorem open_feed {H : Type} {enc : TypeId × Value → H} {w : World} {sp : Nat → Bool} {held : Bool} {r : Reach} {b0 : Nat} {v : Value} {d : DataW H} {ps : List MemPlace} (hval : Value.okWide Try.prog w r b0 22 v) (hd : DataW.Trod enc Try.prog w 0 sp held 22 v d ps) : FeedArg w v := by
  obtain ⟨a0, len, c, rfl⟩ := okWide_slice Try.underlying22 hval
  obtain ⟨fuel, hf⟩ := hd
  obtain ⟨fs, oa, cap, h1, h2, h3, h4, h5⟩ := opens_slice0 Try.underlying22 (by rw [cellsRow]; omega) opens_pts _ _ _ _ _ _ _ hf
  simp [Value.cells] at h1
  obtain ⟨rfl, rfl, rfl⟩ := h1
  rw [cellsRow] at h5
  obtain ⟨so, sc, h6, h7⟩ := args_of h5
  exact ⟨fs, a0, so, sc, c, rfl, by omega, h2, h6, h7⟩
/-- An argument of faults. -/
def FltArg (w : World) (v : Value) : Prop := ∃ (F : List Ft) (oa : Option Addr) (cap : Nat), v = .slice oa F.length cap ∧ F.length ≤ maxLen ∧ F.length ≤ cap ∧ (oa = none → cap = 0) ∧ Flat w 3 encFt oa F
set_option maxRecDepth 100000 in
theorem open_flt {H : Type} {enc : TypeId × Value → H} {w : World} {sp : Nat → Bool} {held : Bool} {r : Reach} {b0 : Nat} {v : Value} {d : DataW H} {ps : List MemPlace} (hval : Value.okWide Try.prog w r b0 23 v) (hd : DataW.Trod enc Try.prog w 0 sp held 23 v d ps) : FltArg w v := by
  obtain ⟨a0, len, c, rfl⟩ := okWide_slice Try.underlying23 hval
  obtain ⟨fuel, hf⟩ := hd
  obtain ⟨F, oa, cap, h1, h2, h3, h4, h5⟩ := opens_slice0 Try.underlying23 (by rw [cellsFt]; omega) opens_ft _ _ _ _ _ _ _ hf
  simp [Value.cells] at h1
  obtain ⟨rfl, rfl, rfl⟩ := h1
  rw [cellsFt] at h5
  exact ⟨F, a0, c, rfl, by omega, h2, h4, h5.flat fun _ _ h => h⟩
end Go.Proofs.Ytemldminpndemaa
