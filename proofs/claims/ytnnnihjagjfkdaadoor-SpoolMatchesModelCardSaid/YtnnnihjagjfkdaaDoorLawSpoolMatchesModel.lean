/-
  SpoolMatchesModel: the law returns true for every input, and leaves its arguments as they were. The four tables that its road reads hold what the program's text lays (the given card ties them). No condition beyond the given statement.
-/
import Derived.Test.YtnnnihjagjfkdaaDoorCards
import Derived.Test.YtnnnihjagjfkdaaDoorTie
import Derived.Test.YtnnnihjagjfkdaaDoorLift
import Derived.Test.YtnnnihjagjfkdaaDoorTables
import Derived.Test.YtnnnihjagjfkdaaDoorModel
namespace Go.Proofs.YtnnnihjagjfkdaaDoor.spoolMatchesModel
open Go.ChangeShapes Go.WideShapes Go.ChangeAt Go.RowKit
set_option linter.unusedVariables false
theorem cellsInt1 : Tryd.prog.cellsOf 3 = 1 := by kernel_rfl
theorem cellsStr1 : Tryd.prog.cellsOf 9 = 1 := by kernel_rfl
theorem opens_st (w : World) : Opens Tryd.prog w 9 (fun cs (s : ByteArray) => cs = encS s ∧ s.size ≤ maxLen) := by
  intro H enc sp held fuel cs x h
  obtain ⟨s, rfl, _, hs⟩ := DataW.trod_string Tryd.underlying9 h
  exact ⟨s, rfl, hs⟩
set_option maxRecDepth 100000 in
theorem open_strs {H : Type} {enc : TypeId × Value → H} {w : World} {sp : Nat → Bool} {held : Bool} {r : Go.Reach} {b0 : Nat} {v : Value} {d : DataW H} {ps : List MemPlace}
    (hval : Value.okWide Tryd.prog w r b0 51 v) (hd : DataW.Trod enc Tryd.prog w 0 sp held 51 v d ps) : ∃ (xs : List ByteArray) (oa : Option Addr) (cap : Nat), v = .slice oa xs.length cap ∧ xs.length ≤ cap ∧ cap ≤ maxLen ∧ Flat w 1 encS oa xs ∧ ∀ s ∈ xs, s.size ≤ maxLen := by
  obtain ⟨xs, oa, cap, h1, h2, h3, h4⟩ := open_sliceR Tryd.underlying51 (by rw [cellsStr1]; omega) (opens_st w) hval hd
  rw [cellsStr1] at h4
  refine ⟨xs, oa, cap, h1, h2, h3, h4.flat fun cs x hr => hr.1, fun s hs => ?_⟩
  obtain ⟨cs, hr⟩ := h4.mem s hs
  exact hr.2
set_option maxRecDepth 100000 in
theorem open_intsM {H : Type} {enc : TypeId × Value → H} {w : World} {sp : Nat → Bool} {held : Bool} {r : Go.Reach} {b0 : Nat} {v : Value} {d : DataW H} {ps : List MemPlace}
    (hval : Value.okWide Tryd.prog w r b0 37 v) (hd : DataW.Trod enc Tryd.prog w 0 sp held 37 v d ps) : ∃ (xs : List Int) (oa : Option Addr) (cap : Nat), v = .slice oa xs.length cap ∧ xs.length ≤ cap ∧ cap ≤ maxLen ∧ Flat w 1 encInt oa xs := by
  obtain ⟨xs, oa, cap, h1, h2, h3, h4⟩ := open_sliceR Tryd.underlying37 (by rw [cellsInt1]; omega) (opens_int Tryd.underlying3) hval hd
  rw [cellsInt1] at h4
  exact ⟨xs, oa, cap, h1, h2, h3, h4.flat fun cs x hr => hr.1⟩
theorem own : ownKnob Tryd.prog.godebug = none := by kernel_rfl
theorem laidOut : laidOutB Tryd.prog = true := by kernel_rfl
theorem paramsOk : ∀ t ∈ Tryd.f5.params.toList, Tryd.prog.readableRec t = true ∧ t < Tryd.prog.types.size := by
  rw [Tryd.params5]
  intro t ht
  simp only [List.mem_cons, List.not_mem_nil, or_false] at ht
  rcases ht with rfl | rfl <;> exact ⟨by kernel_rfl, of_decide_eq_true (by kernel_rfl)⟩
theorem laid_met (os : Os) (args : Array Value) : laidMetH Tryd.prog laid4 ((laidWorld os).forCall (fun _ _ => 0) ⟨#[], args, []⟩).memory :=
  laidMet_of_run' 8 (by kernel_rfl) (by kernel_rfl)
set_option maxRecDepth 100000 in
theorem lifted (os : Os) (started : os.Started) (H : Type) (enc : TypeId × Value → H) :
    ReturnsInHanded {} Tryd.checked os 5 .any (fun w args => (Rows.spoolMatchesModelSpec.pre enc Tryd.prog Tryd.f5 [] false w args ∧ laidMetH Tryd.prog laid4 w) ∧ sizedMet enc Tryd.prog Tryd.f5 (OpenSpec.ofChange Rows.spoolMatchesModelSpec) false w args)
      (Rows.spoolMatchesModelSpec.post enc Tryd.prog Tryd.f5 false true false false) := by
  refine returnsInHanded_of_change_and (C := Tryd.checked) (X := fun w _ => laidMetH Tryd.prog laid4 w) (fun _ _ _ hh h => h.of_heap hh) own started (by kernel_rfl) Tryd.func5
    (ChangeSpec.witness_at (enc := enc) (C := Tryd.checked) (os := os) (X := fun w _ => laidMetH Tryd.prog laid4 w) false (laidWorld os) #[.slice none 0 0, .slice none 0 0] 8 rfl (by kernel_rfl) (by kernel_rfl) (by kernel_rfl) (by kernel_rfl) (by kernel_rfl) (laid_met os _)) ?_
  intro W base args ds gs before hval0 hW _ _ hL _
  have hval : ∀ (j : Nat) t v, Tryd.f5.params[j]? = some t → args[j]? = some v → Value.okWide Tryd.prog W .any base t v := hval0
  have hW' := hW
  obtain ⟨p, q, hA0, hV, rfl, hfz, hnd⟩ := hW
  have hA : DataW.TrodAll enc Tryd.prog W 0 (fun _ => true) true Tryd.f5.params.toList args.toList ds p := hA0
  obtain ⟨rfl, rfl⟩ := trodVars_none hV
  rw [Tryd.params5] at hA hval
  obtain ⟨v0, vs0, d0, ds0, p0, q0, hargs, rfl, rfl, h0, r0⟩ := trodAll_cons hA
  obtain ⟨v1, vs1, d1, ds1, p1, q1, rfl, rfl, rfl, h1, r1⟩ := trodAll_cons r0
  obtain ⟨rfl, rfl, rfl⟩ := trodAll_nil r1
  obtain rfl : args = #[v0, v1] := by cases args; simp_all
  obtain ⟨tx, ot, ct, rfl, htl, htc, htm, htx⟩ := open_strs (hval 0 51 v0 rfl rfl) h0
  obtain ⟨st, os', cs, rfl, hsl, hsc, hst⟩ := open_intsM (hval 1 37 v1 rfl rfl) h1
  refine (model_any ot os' tx st ct cs W ⟨htm, htx⟩ hst (by omega) (by omega) (tabs_of hL)).mono fun e W1 he => ?_
  obtain ⟨rfl, hbw⟩ := he
  exact ⟨_, rfl, post_law laidOut paramsOk rfl Tryd.underlying4 rfl hW' rfl rfl rfl hbw⟩
theorem said : Rows.SpoolMatchesModelSaid :=
  OpenClaim.holds_of_wide 5 Tryd.f5 rfl rfl rfl rfl rfl rfl rfl ⟨rfl, rfl, rfl, rfl, rfl⟩ rfl rfl rfl rfl rfl (by kernel_rfl) Tryd.func5 (by kernel_rfl)
    (of_decide_eq_true (by kernel_rfl)) (by unfold Func.isWrapper; first | (rw [if_pos (by decide +kernel)]; kernel_rfl) | (rw [if_neg (by decide +kernel)]; exact ⟨rfl, rfl⟩))
    (fun os started H enc _ => lifted os started H enc)
theorem plain (f : FuncId) (fn : Func) (hf : Tryd.pinned.checked.prog.funcNamed "printworks/printworkslaw4.SpoolMatchesModel" = some f) (hfn : Tryd.pinned.checked.prog.funcs[f]? = some fn) :
    false = Tryd.pinned.checked.prog.looks [] ∧ ∀ (j : Nat) t, fn.params[j]? = some t → Tryd.pinned.checked.prog.wantsStandIn t = false := by
  obtain rfl : f = 5 := Option.some.inj ((show Tryd.prog.funcNamed "printworks/printworkslaw4.SpoolMatchesModel" = some 5 by kernel_rfl).symm.trans hf) |>.symm
  obtain rfl : fn = Tryd.f5 := (Option.some.inj (Tryd.func5.symm.trans hfn)).symm
  refine ⟨by kernel_rfl, fun j t ht => ?_⟩
  rw [Tryd.params5] at ht
  have hm := Array.mem_of_getElem? ht
  simp only [Array.mem_def, List.mem_cons, List.not_mem_nil, or_false] at hm
  rcases hm with rfl | rfl
  · exact (show Tryd.prog.wantsStandIn 51 = false by kernel_rfl)
  · exact (show Tryd.prog.wantsStandIn 37 = false by kernel_rfl)
/-- The given card. -/
theorem proved : Rows.SpoolMatchesModelCardSaid :=
  Claim7.holds_tied_plain_at .later [] _ _ _ _ said (fun _ h => by cases h) (by kernel_rfl) (fun _ h => by cases h) spoolMatchesModel_row_tie rfl ⟨rfl, rfl⟩ (by kernel_rfl) rfl plain (by kernel_rfl)
#print axioms proved
end Go.Proofs.YtnnnihjagjfkdaaDoor.spoolMatchesModel
