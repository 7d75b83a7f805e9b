/-
  Walks of gang.Surplus and formsError. Own text.
-/
import Derived.Test.YtimofofaeedcoaaGang2
import Derived.Test.YtimofofaeedcoaaSurV
import Derived.Test.YtimofofaeedcoaaArr
import Derived.Test.YtimofofaeedcoaaInts
import Derived.RegionTactic
import Derived.BigRegion
namespace Go.Proofs.Ytimofofaeedcoaa
open Go.RowKit
set_option linter.unusedVariables false
/-- The cells of a plate. -/
def FormR (w : World) (cs : List Value) (f : Form) : Prop :=
  ∃ oj cj ou cu, cs = [.slice oj f.jobs.length cj, .slice ou f.ups.length cu, .int .i64 f.run] ∧ f.jobs.length ≤ maxLen ∧ f.ups.length ≤ maxLen ∧ Flat w 1 encInt oj f.jobs ∧ Flat w 1 encInt ou f.ups ∧ i64ok f.run ∧ (∀ x ∈ f.jobs, i64ok x) ∧ (∀ x ∈ f.ups, i64ok x)
theorem SliceR.below {α : Type} {w w' : World} {k : Nat} {R R' : List Value → α → Prop} {oa : Option Addr} {xs : List α} (h : SliceR w k R oa xs) (hb : Below w.heap.size w w') (hR : ∀ cs x, R cs x → R' cs x) : SliceR w' k R' oa xs := by
  intro i hi
  obtain ⟨b, off, cs, e, hl, hc, hr⟩ := h i hi
  refine ⟨b, off, cs, e, hl, fun j v hv => ?_, hR _ _ hr⟩
  have hc' := hc j v hv
  rw [hb.cell (p := ⟨b, off + (i * k + j), none⟩) (cell?_lt (a := ⟨b, off + (i * k + j), none⟩) hc')]
  exact hc'
theorem FormR.below {w w' : World} {cs : List Value} {f : Form} (h : FormR w cs f) (hb : Below w.heap.size w w') : FormR w' cs f := by
  obtain ⟨oj, cj, ou, cu, e, h1, h2, h3, h4, h5⟩ := h
  exact ⟨oj, cj, ou, cu, e, h1, h2, h3.below hb, h4.below hb, h5⟩
def FormsAt (w : World) (oa : Option Addr) (fs : List Form) : Prop := SliceR w 3 (FormR w) oa fs
theorem FormsAt.below {w w' : World} {oa : Option Addr} {fs : List Form} (h : FormsAt w oa fs) (hb : Below w.heap.size w w') : FormsAt w' oa fs := SliceR.below h hb fun _ _ hr => hr.below hb
/-- Plate i: its three cells. -/
theorem FormsAt.at {w : World} {oa : Option Addr} {fs : List Form} (h : FormsAt w oa fs) {i : Nat} (hi : i < fs.length) :
    ∃ b off oj cj ou cu, oa = some ⟨b, off, none⟩ ∧ w.cell? ⟨b, off + i * 3, none⟩ = some (.slice oj fs[i].jobs.length cj) ∧ w.cell? ⟨b, off + i * 3 + 1, none⟩ = some (.slice ou fs[i].ups.length cu) ∧
      w.cell? ⟨b, off + i * 3 + 2, none⟩ = some (.int .i64 fs[i].run) ∧ fs[i].jobs.length ≤ 9223372036854775807 ∧ fs[i].ups.length ≤ 9223372036854775807 ∧ Flat w 1 encInt oj fs[i].jobs ∧ Flat w 1 encInt ou fs[i].ups := by
  obtain ⟨b, off, cs, e, _, hc, oj, cj, ou, cu, rfl, h1, h2, h3, h4, _⟩ := h i hi
  refine ⟨b, off, oj, cj, ou, cu, e, ?_, ?_, ?_, by unfold maxLen at h1; omega, by unfold maxLen at h2; omega, h3, h4⟩
  · simpa using hc 0 _ rfl
  · simpa [Nat.add_assoc] using hc 1 _ rfl
  · simpa [Nat.add_assoc] using hc 2 _ rfl
end Go.Proofs.Ytimofofaeedcoaa
