/-
  Walks of gang.Surplus and formsError. Own text.
-/
import Derived.Test.YtobmpleddhcloaaGang2
import Derived.Test.YtobmpleddhcloaaSurV
import Derived.Test.YtobmpleddhcloaaArr
import Derived.Test.YtobmpleddhcloaaInts
import Derived.RegionTactic
import Derived.BigRegion
namespace Go.Proofs.Ytobmpleddhcloaa
open Go.RowKit
set_option linter.unusedVariables false
/-- The cells of a plate. -/
def FormR (w : World) (cs : List Value) (f : Form) : Prop :=
  ∃ oj cj ou cu, cs = [.slice oj f.jobs.length cj, .slice ou f.ups.length cu, .int .i64 f.run] ∧ f.jobs.length ≤ maxLen ∧ f.ups.length ≤ maxLen ∧ Flat w 1 encInt oj f.jobs ∧ Flat w 1 encInt ou f.ups ∧ i64ok f.run ∧ (∀ x ∈ f.jobs, i64ok x) ∧ (∀ x ∈ f.ups, i64ok x)
theorem SliceR.below {α : Type} {w w' : World} {k : Nat} {R R' : List Value → α → Prop} {oa : Option Addr} {xs : List α} (h : SliceR w k R oa xs) (hb : Below w.heap.size w w') (hR : ∀ cs x, R cs x → R' cs x) : SliceR w' k R' oa xs := by
  intro i hi
  obtain ⟨b, off, cs, e, hl, hc, hr⟩ := h i hi
  refine ⟨b, off, cs, e, hl, fun j v hv => ?_, hR _ _ hr⟩
  have hc' := hc j v hv
  rw [hb.cell (p := ⟨b, off + (i * k + j), none⟩) (cell?_lt (a := ⟨b, off + (i * k + j), none⟩) hc')]
  exact hc'
theorem FormR.below {w w' : World} {cs : List Value} {f : Form} (h : FormR w cs f) (hb : Below w.heap.size w w') : FormR w' cs f := by
  obtain ⟨oj, cj, ou, cu, e, h1, h2, h3, h4, h5⟩ := h
  exact ⟨oj, cj, ou, cu, e, h1, h2, h3.below hb, h4.below hb, h5⟩
def FormsAt (w : World) (oa : Option Addr) (fs : List Form) : Prop := SliceR w 3 (FormR w) oa fs
theorem FormsAt.below {w w' : World} {oa : Option Addr} {fs : List Form} (h : FormsAt w oa fs) (hb : Below w.heap.size w w') : FormsAt w' oa fs := SliceR.below h hb fun _ _ hr => hr.below hb
/-- Plate i: its three cells. -/
theorem FormsAt.at {w : World} {oa : Option Addr} {fs : List Form} (h : FormsAt w oa fs) {i : Nat} (hi : i < fs.length) :
    ∃ b off oj cj ou cu, oa = some ⟨b, off, none⟩ ∧ w.cell? ⟨b, off + i * 3, none⟩ = some (.slice oj fs[i].jobs.length cj) ∧ w.cell? ⟨b, off + i * 3 + 1, none⟩ = some (.slice ou fs[i].ups.length cu) ∧
      w.cell? ⟨b, off + i * 3 + 2, none⟩ = some (.int .i64 fs[i].run) ∧ fs[i].jobs.length ≤ 9223372036854775807 ∧ fs[i].ups.length ≤ 9223372036854775807 ∧ Flat w 1 encInt oj fs[i].jobs ∧ Flat w 1 encInt ou fs[i].ups := by
  obtain ⟨b, off, cs, e, _, hc, oj, cj, ou, cu, rfl, h1, h2, h3, h4, _⟩ := h i hi
  refine ⟨b, off, oj, cj, ou, cu, e, ?_, ?_, ?_, by unfold maxLen at h1; omega, by unfold maxLen at h2; omega, h3, h4⟩
  · simpa using hc 0 _ rfl
  · simpa [Nat.add_assoc] using hc 1 _ rfl
  · simpa [Nat.add_assoc] using hc 2 _ rfl
set_option maxHeartbeats 2000000 in
theorem formsError_any (oa ob : Option Addr) (ds : List Int) (fs : List Form) (ca cb : Nat) (w : World) (hm : ds.length ≤ maxLen) (hx : Flat w 1 encInt oa ds) (hm2 : fs.length ≤ maxLen) (hf : FormsAt w ob fs) :
    Calls Try.prog 24 #[.slice oa ds.length ca, .slice ob fs.length cb] w fun e w' => e = .returned (.int .i64 (fchk ds fs)) ∧ Below w.heap.size w w' := by
  have hm9 : fs.length ≤ 9223372036854775807 := by unfold maxLen at hm2; omega
  by_cases hc : gchk ds 1 = 0
  · obtain ⟨l1, l2, _, _, _⟩ := gchk_zero hc
    have HC := Lib.hid hc; clear hc
    by_cases h12 : 12 < fs.length
    · have E : Hid (fchk ds fs = 2) := by unfold fchk; rw [if_neg (by rw [HC.out]; omega), if_pos h12]; rfl
      go_enter Try.func24, Try.ntmps24
      go_wp2_with (go_at_call 13; refine (demandsError_any _ _ _ _ _ hm hx).mono ?_; rintro e w' ⟨rfl, rfl⟩; rw [HC.out])
      go_ret
      exact ⟨by rw [E.out]; rfl, Below.refl _ _⟩
    · have E : Hid (fchk ds fs = formsFirst ds.length fs) := by unfold fchk; rw [if_neg (by rw [HC.out]; omega), if_neg h12]; rfl
      go_enter Try.func24, Try.ntmps24
      go_wp2_with (go_at_call 13; refine (demandsError_any _ _ _ _ _ hm hx).mono ?_; rintro e w' ⟨rfl, rfl⟩; rw [HC.out])
      go_loopw [19] (fun i wr => ∃ k : Nat, k ≤ fs.length ∧ i = .int .i64 k ∧ (∀ j (hj : j < fs.length), j < k → formErr ds.length fs[j] = 0) ∧ Below w.heap.size w wr) (fun i _ => fs.length - (intOf i).toNat)
      case atStart => exact ⟨0, by omega, rfl, fun j _ hj => by omega, Below.refl _ _⟩
      case round =>
        obtain ⟨k, hk, rfl, hz, hb⟩ := hrel
        have HZ := Lib.hid hz; clear hz
        by_cases hlt : k < fs.length
        · obtain ⟨b, off, oj, cj, ou, cu, rfl, c0, c1, c2, lj, lu, fj, fu⟩ := (hf.below hb).at hlt
          by_cases hlen : fs[k].jobs.length ≠ fs[k].ups.length ∨ 12 < fs[k].jobs.length
          · have E2 : Hid (fchk ds fs = 4) := by
              have he : formErr ds.length fs[k] = 4 := by unfold formErr; rw [if_pos hlen]
              show fchk ds fs = 4
              rw [E.out, formsFirst_err hlt HZ.out (by rw [he]; omega), he]
            by_cases hne : fs[k].ups.length = fs[k].jobs.length
            · have h1 : ((fs[k].ups.length : Int) != (fs[k].jobs.length : Int)) = false := by simp [hne]
              have h2 : 12 < fs[k].jobs.length := by omega
              clear hlen hne
              go_wp2
              go_ret
              exact ⟨by rw [E2.out]; rfl, balloc hb _⟩
            · have h1 : ((fs[k].ups.length : Int) != (fs[k].jobs.length : Int)) = true := by simp; omega
              clear hlen hne
              go_wp2
              go_ret
              exact ⟨by rw [E2.out]; rfl, balloc hb _⟩
          · have h1 : ((fs[k].ups.length : Int) != (fs[k].jobs.length : Int)) = false := by simp; omega
            have h2 : fs[k].jobs.length ≤ 12 := by omega
            have h3 : fs[k].ups.length ≤ 12 := by omega
            have HEQ : Hid (fs[k].jobs.length = fs[k].ups.length) := by show _ = _; omega
            have HL := Lib.hid hlen; clear hlen
            by_cases hrun : 0 ≤ fs[k].run ∧ fs[k].run ≤ 1048576
            · have hin : inB fs[k].run 0 1048576 = true := inB_yes hrun.1 hrun.2
              have HR := Lib.hid hrun; clear hrun
              obtain ⟨wo, rfl⟩ : ∃ wo : World, wo = wr := ⟨_, rfl⟩
              go_wp2_with (go_at_call 18; refine (in_any _ _ _ _).mono ?_; rintro e w' ⟨rfl, rfl⟩)
              go_loop [43] (fun i => ∃ m : Nat, m ≤ fs[k].jobs.length ∧ i = .int .i64 m ∧ AllTo (itemOk ds.length) fs[k].pairs m) (fun i => fs[k].jobs.length - (intOf i).toNat)
              case atStart => exact ⟨0, by omega, rfl, AllTo.zero _ _⟩
              case round =>
                obtain ⟨m, hmm, rfl, hall⟩ := hrel
                have hpl := pairs_length HEQ.out
                by_cases hlt2 : m < fs[k].jobs.length
                · have hlt3 : m < fs[k].ups.length := by have := HEQ.out; omega
                  have hlt4 : m < fs[k].pairs.length := by omega
                  have hpg := pairs_get hlt4 hlt2 hlt3
                  obtain ⟨bj, offj, rfl, cj0⟩ := fj.int hlt2
                  obtain ⟨bu, offu, rfl, cu0⟩ := fu.int hlt3
                  have hbj := cell?_lt cj0
                  have hbu := cell?_lt cu0
                  by_cases hit : itemOk ds.length fs[k].pairs[m] = true
                  · have hall' := hall.succ hlt4 hit
                    rw [hpg] at hit
                    obtain ⟨i1, i2, i3, i4⟩ := of_decide_eq_true hit
                    have b1 : inB fs[k].jobs[m] 0 ((ds.length : Int) - 1) = true := inB_yes i1 (by show _ ≤ _; have h : fs[k].jobs[m] < (ds.length : Int) := i2; omega)
                    have b2 : inB fs[k].ups[m] 0 64 = true := inB_yes i3 i4
                    clear hpg hpl hit
                    go_wp2_with (go_at_call 18; refine (in_any _ _ _ _).mono ?_; rintro e w' ⟨rfl, rfl⟩)
                    go_round
                    case rel => exact ⟨m + 1, by omega, by go_num, hall'⟩
                    case measure => simp [intOf]; omega
                  · have hit0 : itemOk ds.length fs[k].pairs[m] = false := by simpa using hit
                    have E2 : Hid (fchk ds fs = 3) := by
                      have he : formErr ds.length fs[k] = 3 := by
                        unfold formErr
                        rw [if_neg HL.out, if_neg (by have := HR.out; omega), all_no hlt4 hit0]
                        rfl
                      show fchk ds fs = 3
                      rw [E.out, formsFirst_err hlt HZ.out (by rw [he]; omega), he]
                    rw [hpg] at hit0
                    have hn := of_decide_eq_false hit0
                    have hb2 : inB fs[k].jobs[m] 0 ((ds.length : Int) - 1) = false ∨ (inB fs[k].jobs[m] 0 ((ds.length : Int) - 1) = true ∧ inB fs[k].ups[m] 0 64 = false) := by
                      simp only at hn
                      unfold inB
                      simp only [decide_eq_true_eq, decide_eq_false_iff_not]
                      omega
                    clear hpg hpl hit hit0 hn
                    rcases hb2 with hb2 | ⟨hb2, hb3⟩
                    all_goals
                      go_wp2_with (go_at_call 18; refine (in_any _ _ _ _).mono ?_; rintro e w' ⟨rfl, rfl⟩)
                      go_ret
                      exact ⟨by rw [E2.out]; rfl, balloc hb _⟩
                · have HE0 : Hid (formErr ds.length fs[k] = 0) := by
                    show formErr ds.length fs[k] = 0
                    unfold formErr
                    rw [if_neg HL.out, if_neg (by have := HR.out; omega), if_pos (hall.all (by omega))]
                  clear hpl
                  go_wp2
                  go_roundw
                  case rel =>
                    refine ⟨k + 1, by omega, by go_num, fun j hj hjk => ?_, balloc hb _⟩
                    by_cases e : j = k
                    · subst e; exact HE0.out
                    · exact HZ.out j hj (by omega)
                  case measure => simp [intOf]; omega
            · have hin : inB fs[k].run 0 1048576 = false := inB_no hrun
              have E2 : Hid (fchk ds fs = 3) := by
                have he : formErr ds.length fs[k] = 3 := by unfold formErr; rw [if_neg HL.out, if_pos hrun]
                show fchk ds fs = 3
                rw [E.out, formsFirst_err hlt HZ.out (by rw [he]; omega), he]
              clear hrun
              go_wp2_with (go_at_call 18; refine (in_any _ _ _ _).mono ?_; rintro e w' ⟨rfl, rfl⟩)
              go_ret
              exact ⟨by rw [E2.out]; rfl, balloc hb _⟩
        · have E2 : Hid (fchk ds fs = 0) := by
            show fchk ds fs = 0
            rw [E.out, formsFirst_ok fun j hj => HZ.out j hj (by omega)]
          go_wp2
          go_ret
          exact ⟨by rw [E2.out]; rfl, hb⟩
  · have E : Hid (fchk ds fs = gchk ds 1) := by unfold fchk; rw [if_pos hc]; rfl
    have hc1 : (gchk ds 1 != 0) = true := by simpa using hc
    clear hc
    go_enter Try.func24, Try.ntmps24
    go_wp2_with (go_at_call 13; refine (demandsError_any _ _ _ _ _ hm hx).mono ?_; rintro e w' ⟨rfl, rfl⟩)
    go_ret
    exact ⟨by rw [E.out]; rfl, Below.refl _ _⟩
end Go.Proofs.Ytobmpleddhcloaa
