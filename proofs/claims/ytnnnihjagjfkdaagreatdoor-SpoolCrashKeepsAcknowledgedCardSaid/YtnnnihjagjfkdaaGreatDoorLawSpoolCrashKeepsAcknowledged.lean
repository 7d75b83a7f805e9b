/-
  SpoolCrashKeepsAcknowledged: the law returns true for every input, and leaves its arguments as they were. The eight variables that its road names hold what the program's text lays (the given card ties them). No condition beyond the given statement.
-/
import Derived.Test.YtnnnihjagjfkdaaGreatDoorCards
import Derived.Test.YtnnnihjagjfkdaaGreatDoorTie
import Derived.Test.YtnnnihjagjfkdaaGreatDoorBase
import Derived.Test.YtnnnihjagjfkdaaGreatDoorTabO
import Derived.Test.YtnnnihjagjfkdaaGreatDoorAcked
namespace Go.Proofs.YtnnnihjagjfkdaaGreatDoor.spoolCrashKeepsAcknowledged
open Go.ChangeShapes Go.WideShapes Go.ChangeAt Go.RowKit
set_option linter.unusedVariables false
theorem cellsInt1 : Tryz.prog.cellsOf 3 = 1 := by kernel_rfl
set_option maxRecDepth 100000 in
theorem open_intsM {H : Type} {enc : TypeId × Value → H} {w : World} {sp : Nat → Bool} {held : Bool} {r : Go.Reach} {b0 : Nat} {v : Value} {d : DataW H} {ps : List MemPlace}
    (hval : Value.okWide Tryz.prog w r b0 42 v) (hd : DataW.Trod enc Tryz.prog w 0 sp held 42 v d ps) : ∃ (xs : List Int) (oa : Option Addr) (cap : Nat), v = .slice oa xs.length cap ∧ xs.length ≤ cap ∧ cap ≤ maxLen ∧ Flat w 1 encInt oa xs := by
  obtain ⟨xs, oa, cap, h1, h2, h3, h4⟩ := open_sliceR Tryz.underlying42 (by rw [cellsInt1]; omega) (opens_int Tryz.underlying3) hval hd
  rw [cellsInt1] at h4
  exact ⟨xs, oa, cap, h1, h2, h3, h4.flat fun cs x hr => hr.1⟩
theorem own : ownKnob Tryz.prog.godebug = none := by kernel_rfl
theorem laidOut : laidOutB Tryz.prog = true := by kernel_rfl
theorem paramsOk : ∀ t ∈ Tryz.f6.params.toList, Tryz.prog.readableRec t = true ∧ t < Tryz.prog.types.size := by
  rw [Tryz.params6]
  intro t ht
  simp only [List.mem_cons, List.not_mem_nil, or_false] at ht
  rcases ht with rfl | rfl | rfl <;> exact ⟨by kernel_rfl, of_decide_eq_true (by kernel_rfl)⟩
set_option maxRecDepth 100000 in
theorem lifted (os : Os) (started : os.Started) (H : Type) (enc : TypeId × Value → H) :
    ReturnsInHanded {} Tryz.checked os 6 .any (fun w args => (Rows.spoolCrashKeepsAcknowledgedSpec.pre enc Tryz.prog Tryz.f6 [] false w args ∧ laidMetH Tryz.prog laid8 w) ∧ sizedMet enc Tryz.prog Tryz.f6 (OpenSpec.ofChange Rows.spoolCrashKeepsAcknowledgedSpec) false w args)
      (Rows.spoolCrashKeepsAcknowledgedSpec.post enc Tryz.prog Tryz.f6 false true false false) := by
  refine returns_laid (C := Tryz.checked) (X := fun w _ => laidMetH Tryz.prog laid8 w) (fun _ _ _ hh h => h.of_heap hh) own started (by kernel_rfl) Tryz.func6
    (ChangeSpec.witness_at (enc := enc) (C := Tryz.checked) (os := os) (X := fun w _ => laidMetH Tryz.prog laid8 w) false (laidWorld os) #[.slice none 0 0, .slice none 0 0, .int .i64 0] 8 rfl (by kernel_rfl) (by kernel_rfl) (by kernel_rfl) (by kernel_rfl) (by kernel_rfl) (laid_met os _)) ?_
  intro W base args ds gs before hval0 hW hL hS
  have hval : ∀ (j : Nat) t v, Tryz.f6.params[j]? = some t → args[j]? = some v → Value.okWide Tryz.prog W .any base t v := hval0
  have hW' := hW
  obtain ⟨p, q, hA0, hV, rfl, hfz, hnd⟩ := hW
  have hA : DataW.TrodAll enc Tryz.prog W 0 (fun _ => true) true Tryz.f6.params.toList args.toList ds p := hA0
  obtain ⟨rfl, rfl⟩ := trodVars_none hV
  rw [Tryz.params6] at hA hval
  obtain ⟨v0, vs0, d0, ds0, p0, q0, hargs, rfl, rfl, h0, r0⟩ := trodAll_cons hA
  obtain ⟨v1, vs1, d1, ds1, p1, q1, rfl, rfl, rfl, h1, r1⟩ := trodAll_cons r0
  obtain ⟨v2, vs2, d2, ds2, p2, q2, rfl, rfl, rfl, h2, r2⟩ := trodAll_cons r1
  obtain ⟨rfl, rfl, rfl⟩ := trodAll_nil r2
  obtain rfl : args = #[v0, v1, v2] := by cases args; simp_all
  obtain ⟨l0, o0, c0, rfl, hl0, hc0, hf0⟩ := open_intsM (hval 0 42 v0 rfl rfl) h0
  obtain ⟨l1, o1, c1, rfl, hl1, hc1, hf1⟩ := open_intsM (hval 1 42 v1 rfl rfl) h1
  obtain ⟨k2, rfl, rfl, rfl, hk2⟩ := open_int Tryz.underlying3 (hval 2 3 v2 rfl rfl) h2
  refine (acked_any o0 o1 l0 l1 c0 c1 k2 W hf0 (by omega) (by omega) (bounds_i64 hk2) (tabz_of hL hS)).mono fun e W1 he => ?_
  obtain ⟨rfl, hbw⟩ := he
  exact ⟨_, rfl, post_law laidOut paramsOk rfl Tryz.underlying4 rfl hW' rfl rfl rfl hbw⟩
theorem said : Rows.SpoolCrashKeepsAcknowledgedSaid :=
  OpenClaim.holds_of_wide 6 Tryz.f6 rfl rfl rfl rfl rfl rfl rfl ⟨rfl, rfl, rfl, rfl, rfl⟩ rfl rfl rfl rfl rfl (by kernel_rfl) Tryz.func6 (by kernel_rfl)
    (of_decide_eq_true (by kernel_rfl)) (by unfold Func.isWrapper; first | (rw [if_pos (by decide +kernel)]; kernel_rfl) | (rw [if_neg (by decide +kernel)]; exact ⟨rfl, rfl⟩))
    (fun os started H enc _ => lifted os started H enc)
theorem plain (f : FuncId) (fn : Func) (hf : Tryz.pinned.checked.prog.funcNamed "printworks/printworkskeep4.SpoolCrashKeepsAcknowledged" = some f) (hfn : Tryz.pinned.checked.prog.funcs[f]? = some fn) :
    true = Tryz.pinned.checked.prog.looks [] ∧ ∀ (j : Nat) t, fn.params[j]? = some t → Tryz.pinned.checked.prog.wantsStandIn t = false := by
  obtain rfl : f = 6 := Option.some.inj ((show Tryz.prog.funcNamed "printworks/printworkskeep4.SpoolCrashKeepsAcknowledged" = some 6 by kernel_rfl).symm.trans hf) |>.symm
  obtain rfl : fn = Tryz.f6 := (Option.some.inj (Tryz.func6.symm.trans hfn)).symm
  refine ⟨by kernel_rfl, fun j t ht => ?_⟩
  rw [Tryz.params6] at ht
  have hm := Array.mem_of_getElem? ht
  simp only [Array.mem_def, List.mem_cons, List.not_mem_nil, or_false] at hm
  rcases hm with rfl | rfl | rfl
  · exact (show Tryz.prog.wantsStandIn 42 = false by kernel_rfl)
  · exact (show Tryz.prog.wantsStandIn 42 = false by kernel_rfl)
  · exact (show Tryz.prog.wantsStandIn 3 = false by kernel_rfl)
/-- The given card. -/
theorem proved : Rows.SpoolCrashKeepsAcknowledgedCardSaid :=
  Claim7.holds_tied_plain_at .later [] _ _ _ _ said (fun _ h => by cases h) (by kernel_rfl) (fun _ h => by cases h) spoolCrashKeepsAcknowledged_row_tie rfl ⟨rfl, rfl⟩ (by kernel_rfl) rfl plain (by kernel_rfl)
#print axioms proved
end Go.Proofs.YtnnnihjagjfkdaaGreatDoor.spoolCrashKeepsAcknowledged
