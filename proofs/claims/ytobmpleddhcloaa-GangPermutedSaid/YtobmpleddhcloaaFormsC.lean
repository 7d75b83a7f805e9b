/-
  gang.Forms, what it costs. Own text.
-/
import Derived.Test.YtobmpleddhcloaaFormsX
import Derived.Test.YtobmpleddhcloaaDivV
namespace Go.Proofs.Ytobmpleddhcloaa
open Go.RowKit
theorem forms_cost (od : Option Addr) (ds : List Int) (cd : Nat) (s p : Int) (w : World) (hx : Flat w 1 encInt od ds) (hc : gchk ds s = 0) (hp0 : 0 ≤ p) (hp1 : p ≤ 1048576) :
    Calls Try.prog 26 #[.slice od ds.length cd, .int .i64 s, .int .i64 p] w (RetCost ds s p w) := by
  refine (forms_ok od ds cd s p w hx hc hp0 hp1).mono ?_
  rintro e w' ⟨B, N, m, oa, cap, rfl, hB, _, _, _, _, hb⟩
  exact ⟨B 0, oa, m, cap, rfl, hB.cheap, hb⟩
end Go.Proofs.Ytobmpleddhcloaa
