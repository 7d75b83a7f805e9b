/-
  The walk of profile.Check. Own text.
-/
import Derived.Test.YtiokmfmcmfbjoaaNames
import Derived.Test.YtiokmfmcmfbjoaaLab
import Derived.Test.YtiokmfmcmfbjoaaGridC
import Derived.Deep.RegionHeld3
namespace Go.Proofs.Ytiokmfmcmfbjoaa
open Go.RowKit
set_option linter.unusedVariables false
theorem RetChk.pos {ok : Prop} {f : FuncId} {args : Array Value} {w : World} (h : Calls Try.prog f args w (RetChk ok w)) (hok : ok) : Calls Try.prog f args w fun e w' => e = .returned (.int .i64 0) ∧ Below w.heap.size w w' := by
  refine h.mono ?_
  rintro e w' ⟨c, rfl, hc, hb⟩
  rw [hc.2 hok]
  exact ⟨rfl, hb⟩
theorem RetChk.neg {ok : Prop} {f : FuncId} {args : Array Value} {w : World} (h : Calls Try.prog f args w (RetChk ok w)) (hno : ¬ ok) : Calls Try.prog f args w fun e w' => ∃ c : Int, e = .returned (.int .i64 c) ∧ (c != 0) = true ∧ Below w.heap.size w w' := by
  refine h.mono ?_
  rintro e w' ⟨c, rfl, hc, hb⟩
  exact ⟨c, rfl, by simpa using fun h => hno (hc.1 h), hb⟩
structure Prof where
  name : ByteArray
  inks : List ByteArray
  curves : List (List (Int × Int))
  inn : Int
  out : Int
  size : Int
  vals : List Int
structure OkProf (P : Prof) : Prop where
  name : OkName P.name
  few : 1 ≤ P.inks.length ∧ P.inks.length ≤ 4
  names : OkNames P.inks
  same : P.curves.length = P.inks.length
  curves : ∀ i (h : i < P.curves.length), OkCurve P.curves[i]
  grid : OkGrid P.inn P.out P.size P.vals
  axes : P.inn = P.inks.length ∧ P.out = 3
  labs : ∀ q, 3 * q + 2 < P.vals.length → OkLab (P.vals.getD (3 * q) 0) (P.vals.getD (3 * q + 1) 0) (P.vals.getD (3 * q + 2) 0)
/-- The cells of a profile. -/
structure ProfAt (w : World) (P : Prof) (oi : Option Addr) (ci : Nat) (oc : Option Addr) (cc : Nat) (ov : Option Addr) (cv : Nat) : Prop where
  zn : P.name.size ≤ maxLen
  zi : P.inks.length ≤ ci
  zi2 : ci ≤ maxLen
  zs : ∀ s ∈ P.inks, s.size ≤ maxLen
  inks : Flat w 1 encStr oi P.inks
  zc : P.curves.length ≤ maxLen
  curves : Rows1 w 2 encInt2 oc P.curves
  zv : P.vals.length ≤ cv
  zv2 : cv ≤ maxLen
  vals : Flat w 1 encInt ov P.vals
theorem ProfAt.below {w w' : World} {P : Prof} {oi : Option Addr} {ci : Nat} {oc : Option Addr} {cc : Nat} {ov : Option Addr} {cv : Nat} (h : ProfAt w P oi ci oc cc ov cv) (hb : Below w.heap.size w w') : ProfAt w' P oi ci oc cc ov cv :=
  ⟨h.zn, h.zi, h.zi2, h.zs, h.inks.below hb, h.zc, h.curves.below hb, h.zv, h.zv2, h.vals.below hb⟩
def profCells (P : Prof) (oi : Option Addr) (ci : Nat) (oc : Option Addr) (cc : Nat) (ov : Option Addr) (cv : Nat) : Array Value :=
  #[.string P.name, .slice oi P.inks.length ci, .slice oc P.curves.length cc, .int .i64 P.inn, .int .i64 P.out, .int .i64 P.size, .slice ov P.vals.length cv]
/-- The seven cells of a profile in a block of its own. -/
structure BoxAt (W : World) (b : Nat) (o : Nat) (cs : Array Value) : Prop where
  at' : ∀ i v, cs[i]? = some v → W.cell? ⟨b, o + i, none⟩ = some v
theorem BoxAt.below {W W' : World} {b o : Nat} {cs : Array Value} (h : BoxAt W b o cs) (hb : Below W.heap.size W W') : BoxAt W' b o cs := ⟨fun i v hv => keepCell hb (h.at' i v hv)⟩
theorem BoxAt.new (w : World) (cs : Array Value) (t : TypeId) : BoxAt (w.alloc (.cells cs t)) w.heap.size 0 cs := ⟨fun i v hv => by rw [Nat.zero_add, cell_of_row _ w.heap.size _ _ _ (0, 0) (heap_alloc_new w _)]; exact hv⟩
set_option maxRecDepth 100000 in
set_option maxHeartbeats 4000000 in
theorem profcheck_any (P : Prof) (oi : Option Addr) (ci : Nat) (oc : Option Addr) (cc : Nat) (ov : Option Addr) (cv : Nat) (w : World) (hp : ProfAt w P oi ci oc cc ov cv) :
    Calls Try.prog 5 #[.agg (profCells P oi ci oc cc ov cv)] w (RetChk (OkProf P) w) := by
  have HP := Lib.hid hp
  obtain ⟨name, inks, curves, inn, out, size, vals⟩ := P
  unfold profCells
  simp only
  have hbox := BoxAt.new w #[.string name, .slice oi inks.length ci, .slice oc curves.length cc, .int .i64 inn, .int .i64 out, .int .i64 size, .slice ov vals.length cv] 28
  have hb0 := balloc (Below.refl _ w) (.cells #[.string name, .slice oi inks.length ci, .slice oc curves.length cc, .int .i64 inn, .int .i64 out, .int .i64 size, .slice ov vals.length cv] 28)
  have hi9 : inks.length ≤ 9223372036854775807 := by have := hp.zi; have := hp.zi2; unfold maxLen at this; simp only at *; omega
  have hc9 : curves.length ≤ 9223372036854775807 := by have := hp.zc; unfold maxLen at this; simp only at *; omega
  have hv9 : vals.length ≤ 9223372036854775807 := by have := hp.zv; have := hp.zv2; unfold maxLen at this; simp only at *; omega
  have HB := Lib.hid hb0
  have HBX := Lib.hid hbox
  generalize hW1 : w.alloc (.cells #[.string name, .slice oi inks.length ci, .slice oc curves.length cc, .int .i64 inn, .int .i64 out, .int .i64 size, .slice ov vals.length cv] 28) = W1 at *
  have c0 : W1.cell? ⟨w.heap.size, 0, none⟩ = some (.string name) := hbox.at' 0 _ rfl
  have c1 : W1.cell? ⟨w.heap.size, 1, none⟩ = some (.slice oi inks.length ci) := hbox.at' 1 _ rfl
  have c2 : W1.cell? ⟨w.heap.size, 2, none⟩ = some (.slice oc curves.length cc) := hbox.at' 2 _ rfl
  have c3 : W1.cell? ⟨w.heap.size, 3, none⟩ = some (.int .i64 inn) := hbox.at' 3 _ rfl
  have c4 : W1.cell? ⟨w.heap.size, 4, none⟩ = some (.int .i64 out) := hbox.at' 4 _ rfl
  have c5 : W1.cell? ⟨w.heap.size, 5, none⟩ = some (.int .i64 size) := hbox.at' 5 _ rfl
  have c6 : W1.cell? ⟨w.heap.size, 6, none⟩ = some (.slice ov vals.length cv) := hbox.at' 6 _ rfl
  have HW1 := Lib.hid hW1
  clear hW1
  have HNAME : Hid (∀ W, Calls Try.prog 10 #[.string name] W (RetName (OkName name) W)) := fun W => isName_any name W HP.out.zn
  clear hbox hb0 hp
  by_cases hn : OkName name
  · have hn' := Lib.hid hn
    clear hn
    go_enter Try.func5, Try.ntmps5
    by_cases hfew : 1 ≤ inks.length ∧ inks.length ≤ 4
    · have HFEW := Lib.hid hfew
      obtain ⟨f1, f2⟩ := hfew
      have f3 : ¬ 4 < inks.length := by omega
      have f4 : ((inks.length : Int) == 0) = false := by simp only [beq_eq_false_iff_ne, ne_eq]; omega
      go_wp2_with fail
      refine (HNAME.out _).mono ?_
      rintro e w' ⟨bb, rfl, hbb, rfl⟩
      obtain rfl : bb = true := hbb.2 hn'.out
      clear hbb
      rw [HW1.out]
      have hPW := Lib.hid (HP.out.below HB.out)
      go_wp2_with fail
      have hnm := Lib.hid (names_any oi inks ci W1 hPW.out.zi hPW.out.zi2 hPW.out.inks hPW.out.zs)
      refine hnm.out.mono ?_
      rintro e w2 ⟨c, rfl, hc, hb2⟩
      have hBW2 := Lib.hid (bthen HB.out hb2)
      by_cases hns : OkNames inks
      · obtain rfl : c = 0 := hc.2 hns
        have HNS := Lib.hid hns
        clear hc hns
        have d0 := keepCell hb2 c0
        have d1 := keepCell hb2 c1
        have d2 := keepCell hb2 c2
        have d3 := keepCell hb2 c3
        have d4 := keepCell hb2 c4
        have d5 := keepCell hb2 c5
        have d6 := keepCell hb2 c6
        have hPW2 := Lib.hid (HP.out.below hBW2.out)
        clear c0 c1 c2 c3 c4 c5 c6 hb2
        by_cases hsame : curves.length = inks.length
        · have HSAME := Lib.hid hsame
          have t1 : ((curves.length : Int) != (inks.length : Int)) = false := by simp [hsame]
          clear hsame
          go_wp2_with fail
          go_loopw [40] (fun i wr => ∃ k : Nat, k ≤ curves.length ∧ i = .int .i64 k ∧ Hid (∀ j (h : j < curves.length), j < k → OkCurve curves[j]) ∧ Below w2.heap.size w2 wr) (fun i _ => curves.length - (intOf i).toNat)
          case atStart => exact ⟨0, by omega, rfl, Lib.hid (fun j h hj => by omega), Below.refl _ _⟩
          case round =>
            obtain ⟨k, hk, rfl, HA, hb⟩ := hrel
            have hbr := Lib.hid (bthen hBW2.out hb)
            by_cases hlt : k < curves.length
            · obtain ⟨b, off, v, rfl, e1, oa, cap, rfl, _, hcm, hcf⟩ := (hPW2.out.below hb).curves k hlt
              simp only at e1 hcm hcf
              have hcc := Lib.hid (ccheck_any oa curves[k] cap (wr.alloc (.cells #[.slice oa curves[k].length cap] 47)) hcm (hcf.below (balloc (Below.refl _ _) _)))
              have hbn := Lib.hid hb
              by_cases hok : OkCurve curves[k]
              · have HN : Hid (∀ j (h : j < curves.length), j < k + 1 → OkCurve curves[j]) := fun j h hj => by
                  by_cases e : j = k
                  · subst e; exact hok
                  · exact HA.out j h (by omega)
                have hcp := Lib.hid (RetChk.pos hcc.out hok)
                generalize curves[k].length = q at *
                clear hcf hcm hok hb hcc
                go_wp2_with (go_at_call 12; refine hcp.out.mono ?_; rintro e w3 ⟨rfl, hb3⟩)
                go_roundw
                case rel => exact ⟨k + 1, by omega, by go_num, HN, bthen (balloc hbn.out _) hb3⟩
                case measure => simp [intOf]; omega
              · have hno : Hid (¬ OkProf ⟨name, inks, curves, inn, out, size, vals⟩) := fun h => hok (h.curves k hlt)
                have hcp := Lib.hid (RetChk.neg hcc.out hok)
                generalize curves[k].length = q at *
                clear hcf hcm hok hb hcc
                go_wp2_with (go_at_call 12; refine hcp.out.mono ?_; rintro e w3 ⟨c, rfl, hcz, hb3⟩)
                go_ret
                exact RetChk.no (by simpa using hcz) hno.out (bthen (balloc hbr.out _) hb3)
            · have HCU : Hid (∀ i (h : i < curves.length), OkCurve curves[i]) := fun i h => HA.out i h (by omega)
              have f0 := keepCell hb d0
              have f1 := keepCell hb d1
              have f2 := keepCell hb d2
              have f3 := keepCell hb d3
              have f4' := keepCell hb d4
              have f5 := keepCell hb d5
              have f6 := keepCell hb d6
              have hPW3 := Lib.hid (HP.out.below hbr.out)
              have hgc := Lib.hid (gridcheck_any inn out size ov vals cv wr (by have h1 := HP.out.zv; have h2 := HP.out.zv2; simp only at h1; omega) hPW3.out.vals)
              clear d0 d1 d2 d3 d4 d5 d6 hb HA
              by_cases hg : OkGrid inn out size vals
              · have HG := Lib.hid hg
                have hgp := Lib.hid (RetChk.pos hgc.out hg)
                clear hg hgc
                go_wp2_with fail
                refine hgp.out.mono ?_
                rintro e w4 ⟨rfl, hb4⟩
                have hBW4 := Lib.hid (bthen hbr.out hb4)
                have d0 := keepCell hb4 f0
                have d1 := keepCell hb4 f1
                have d3 := keepCell hb4 f3
                have d4 := keepCell hb4 f4'
                have d6 := keepCell hb4 f6
                clear f0 f1 f2 f3 f4' f5 f6 hb4
                by_cases hax : inn = inks.length ∧ out = 3
                · have HAX := Lib.hid hax
                  have t2 : (inn != (inks.length : Int)) = false := by simp [hax.1]
                  have t3 : (out != 3) = false := by simp [hax.2]
                  obtain ⟨nq, hnq⟩ : ∃ nq : Nat, vals.length = 3 * nq ∧ 1 ≤ nq := by
                    have h1 := HG.out.len
                    rw [hax.2] at h1
                    have h2 := HG.out.shape
                    have h3 := pw_bd (s := size) (by have := h2.2.1; unfold SizeOk at this; omega) (by have := h2.2.1; unfold SizeOk at this; omega) inn.toNat (by have := h2.1; omega)
                    exact ⟨(pw size inn.toNat).toNat, by omega, by omega⟩
                  have HVL := Lib.hid hnq.1
                  have hq1 := hnq.2
                  have hv0 : 0 < vals.length := by omega
                  clear hnq hax
                  have hPW4 := Lib.hid (HP.out.below hBW4.out)
                  obtain ⟨b, off, rfl, _⟩ := hPW4.out.vals.int (i := 0) hv0
                  have hcvv : vals.length ≤ cv := HP.out.zv
                  have hcv9 : cv ≤ 9223372036854775807 := by have := HP.out.zv2; unfold maxLen at this; omega
                  have hcell : Hid (∀ W, Below w4.heap.size w4 W → ∀ i, i < vals.length → W.cell? ⟨b, off + i, none⟩ = some (.int .i64 (vals.getD i 0))) := fun W hW i hi => by
                    obtain ⟨b', off', e, h⟩ := (hPW4.out.vals.below hW).int hi
                    cases e
                    rw [List.getD_eq_getElem?_getD, List.getElem?_eq_getElem hi]
                    exact h
                  go_wp2_with fail
                  go_loopw [9] (fun v wr => ∃ q oo L C : Nat, q ≤ nq ∧ v = .slice (some ⟨b, oo, none⟩) L C ∧ L = 3 * nq - 3 * q ∧ C + 3 * q = cv ∧ (q < nq → oo = off + 3 * q) ∧ Hid (∀ j, j < q → OkLab (vals.getD (3 * j) 0) (vals.getD (3 * j + 1) 0) (vals.getD (3 * j + 2) 0)) ∧ Below w4.heap.size w4 wr) (fun v _ => match v with | .slice _ n _ => n | _ => 0)
                  case atStart => exact ⟨0, off, vals.length, cv, by omega, rfl, by have := HVL.out; omega, by omega, fun _ => by omega, Lib.hid (fun j h => by omega), Below.refl _ _⟩
                  case round =>
                    obtain ⟨q, oo, L, C, hq, rfl, hL, hC, hoo, HA, hb⟩ := hrel
                    by_cases hlt : q < nq
                    · have ho := hoo hlt
                      have HO := Lib.hid ho
                      obtain ⟨x, hx⟩ : ∃ x, x = vals.getD (3 * q) 0 := ⟨_, rfl⟩
                      obtain ⟨y, hy⟩ : ∃ y, y = vals.getD (3 * q + 1) 0 := ⟨_, rfl⟩
                      obtain ⟨z, hz⟩ : ∃ z, z = vals.getD (3 * q + 2) 0 := ⟨_, rfl⟩
                      have hvl := HVL.out
                      have e0 : wr.cell? ⟨b, oo, none⟩ = some (.int .i64 x) := by rw [ho, hx]; exact hcell.out wr hb (3 * q) (by omega)
                      have e1 : wr.cell? ⟨b, oo + 1, none⟩ = some (.int .i64 y) := by rw [ho, hy]; exact hcell.out wr hb (3 * q + 1) (by omega)
                      have e2 : wr.cell? ⟨b, oo + 2, none⟩ = some (.int .i64 z) := by rw [ho, hz]; exact hcell.out wr hb (3 * q + 2) (by omega)
                      have HXYZ := Lib.hid (And.intro hx (And.intro hy hz))
                      have l0 : 0 < L := by omega
                      have l1 : 1 < L := by omega
                      have l2 : 2 < L := by omega
                      have l3 : 3 ≤ L := by omega
                      have l5 : (1 : Int) < (L : Int) := by omega
                      have l6 : (2 : Int) < (L : Int) := by omega
                      have l7 : (3 : Int) ≤ (L : Int) := by omega
                      have l8 : L ≤ C := by omega
                      have l4 : L ≤ 9223372036854775807 := by omega
                      have HLC := Lib.hid (And.intro hL hC)
                      have HBN := Lib.hid hb
                      have hbb := cell?_lt e0
                      simp only at hbb
                      clear hx hy hz ho hoo hvl hL hC
                      have hS : Hid (∀ w', Below wr.heap.size wr w' → (Below wr.heap.size wr w' ∧ w'.cell? ⟨b, oo, none⟩ = some (.int .i64 x) ∧ w'.cell? ⟨b, oo + 1, none⟩ = some (.int .i64 y) ∧ w'.cell? ⟨b, oo + 2, none⟩ = some (.int .i64 z))) := fun w' hw => ⟨hw, keepCell hw e0, keepCell hw e1, keepCell hw e2⟩
                      by_cases hok : OkLab x y z
                      · have hlc : Hid (∀ w', Calls Try.prog 14 #[.agg #[.int .i64 x, .int .i64 y, .int .i64 z]] w' fun e w'' => e = .returned (.int .i64 0) ∧ Below w'.heap.size w' w'') := fun w' => RetChk.pos (lcheck_any x y z w') hok
                        have HN : Hid (∀ j, j < q + 1 → OkLab (vals.getD (3 * j) 0) (vals.getD (3 * j + 1) 0) (vals.getD (3 * j + 2) 0)) := fun j hj => by
                          by_cases e : j = q
                          · subst e
                            obtain ⟨a1, a2, a3⟩ := HXYZ.out
                            rw [← a1, ← a2, ← a3]
                            exact hok
                          · exact HA.out j (by omega)
                        clear hok hb
                        go_wp2
                        go_region_held3 (fun w' => Below wr.heap.size wr w' ∧ w'.cell? ⟨b, oo, none⟩ = some (.int .i64 x) ∧ w'.cell? ⟨b, oo + 1, none⟩ = some (.int .i64 y) ∧ w'.cell? ⟨b, oo + 2, none⟩ = some (.int .i64 z))
                          ((refine hS.out _ ?_; (first | assumption | go_grown | exact Below.alloc (by assumption) (by omega) _)))
                          (first | fail | (go_simp; go_at_call 14; (with_reducible refine (hlc.out _).mono ?_); rintro e w5 ⟨rfl, hb5⟩; have hz5 : Below wr.heap.size wr w5 := bthen (And.left (by assumption)) hb5))
                        clear hS e0 e1 e2 hlc
                        by_cases hC3 : C = 3
                        · go_wp2
                          go_roundw
                          case rel => exact ⟨q + 1, _, _, _, by omega, rfl, by have := HLC.out; omega, by have := HLC.out; omega, fun h => by have := HLC.out; omega, HN, bthen HBN.out hz5⟩
                          case measure => simp; omega
                        · go_wp2
                          go_roundw
                          case rel => exact ⟨q + 1, oo + 3, L - 3, C - 3, by omega, rfl, by have := HLC.out; omega, by have := HLC.out; omega, fun h => by have := HO.out; omega, HN, bthen HBN.out hz5⟩
                          case measure => simp; omega
                      · have hno : Hid (¬ OkProf ⟨name, inks, curves, inn, out, size, vals⟩) := fun h => hok (by
                          obtain ⟨a1, a2, a3⟩ := HXYZ.out
                          rw [a1, a2, a3]
                          exact h.labs q (by have := HVL.out; show 3 * q + 2 < vals.length; omega))
                        have hlc : Hid (∀ w', Calls Try.prog 14 #[.agg #[.int .i64 x, .int .i64 y, .int .i64 z]] w' fun e w'' => ∃ c : Int, e = .returned (.int .i64 c) ∧ (c != 0) = true ∧ Below w'.heap.size w' w'') := fun w' => RetChk.neg (lcheck_any x y z w') hok
                        clear hok hb
                        go_wp2
                        go_region_held3 (fun w' => Below wr.heap.size wr w' ∧ w'.cell? ⟨b, oo, none⟩ = some (.int .i64 x) ∧ w'.cell? ⟨b, oo + 1, none⟩ = some (.int .i64 y) ∧ w'.cell? ⟨b, oo + 2, none⟩ = some (.int .i64 z))
                          ((refine hS.out _ ?_; (first | assumption | go_grown | exact Below.alloc (by assumption) (by omega) _)))
                          (first | fail | (go_simp; go_at_call 14; (with_reducible refine (hlc.out _).mono ?_); rintro e w5 ⟨c, rfl, hcz, hb5⟩; have hz5 : Below wr.heap.size wr w5 := bthen (And.left (by assumption)) hb5))
                        go_wp2
                        go_ret
                        exact RetChk.no (by simpa using hcz) hno.out (bthen (bthen hBW4.out HBN.out) hz5)
                    · have hL0 : L = 0 := by omega
                      subst hL0
                      have hyes : Hid (OkProf ⟨name, inks, curves, inn, out, size, vals⟩) := by
                        refine ⟨hn'.out, HFEW.out, HNS.out, HSAME.out, HCU.out, HG.out, HAX.out, fun j hj => HA.out j ?_⟩
                        have := HVL.out
                        have hj' : 3 * j + 2 < vals.length := hj
                        omega
                      have hbf := Lib.hid (bthen hBW4.out hb)
                      clear hb
                      go_wp2
                      go_ret
                      exact RetChk.yes hyes.out hbf.out
                · have hno : Hid (¬ OkProf ⟨name, inks, curves, inn, out, size, vals⟩) := fun h => hax h.axes
                  by_cases h1 : inn = inks.length
                  · have t2 : (inn != (inks.length : Int)) = false := by simp [h1]
                    have t3 : (out != 3) = true := by simpa using fun h => hax ⟨h1, h⟩
                    clear hax h1
                    go_wp2_with fail
                    go_ret
                    exact RetChk.no (by omega) hno.out hBW4.out
                  · have t2 : (inn != (inks.length : Int)) = true := by simpa using h1
                    clear hax h1
                    go_wp2_with fail
                    go_ret
                    exact RetChk.no (by omega) hno.out hBW4.out
              · have hno : Hid (¬ OkProf ⟨name, inks, curves, inn, out, size, vals⟩) := fun h => hg h.grid
                have hgp := Lib.hid (RetChk.neg hgc.out hg)
                clear hg hgc
                go_wp2_with (go_at_call 13; refine hgp.out.mono ?_; rintro e w3 ⟨c, rfl, hcz, hb3⟩)
                go_ret
                exact RetChk.no (by simpa using hcz) hno.out (bthen hbr.out hb3)
        · have hno : Hid (¬ OkProf ⟨name, inks, curves, inn, out, size, vals⟩) := fun h => hsame h.same
          have t1 : ((curves.length : Int) != (inks.length : Int)) = true := by simp only [bne_iff_ne, ne_eq]; omega
          clear hsame
          go_wp2_with fail
          go_ret
          exact RetChk.no (by omega) hno.out hBW2.out
      · have hno : Hid (¬ OkProf ⟨name, inks, curves, inn, out, size, vals⟩) := fun h => hns h.names
        have hcz : c ≠ 0 := fun e => hns (hc.1 e)
        have t1 : (c != 0) = true := by simpa using hcz
        clear hc hns
        have HCZ := Lib.hid hcz
        clear hcz
        go_wp2_with fail
        go_ret
        exact RetChk.no HCZ.out hno.out hBW2.out
    · have hno : Hid (¬ OkProf ⟨name, inks, curves, inn, out, size, vals⟩) := fun h => hfew h.few
      have f3 : 4 < inks.length ∨ inks.length = 0 := by omega
      clear hfew
      rcases f3 with f3 | f3
      · go_wp2_with (go_at_call 10; refine (HNAME.out _).mono ?_; rintro e w' ⟨bb, rfl, hbb, rfl⟩; obtain rfl : bb = true := hbb.2 hn'.out; clear hbb)
        go_ret
        exact RetChk.no (by omega) hno.out (by rw [HW1.out]; exact HB.out)
      · have f4 : ((inks.length : Int) == 0) = true := by simp [f3]
        have f5 : ¬ 4 < inks.length := by omega
        replace f3 := Lib.hid f3
        go_wp2_with (go_at_call 10; refine (HNAME.out _).mono ?_; rintro e w' ⟨bb, rfl, hbb, rfl⟩; obtain rfl : bb = true := hbb.2 hn'.out; clear hbb)
        go_ret
        exact RetChk.no (by omega) hno.out (by rw [HW1.out]; exact HB.out)
  · have hno : Hid (¬ OkProf ⟨name, inks, curves, inn, out, size, vals⟩) := fun h => hn h.name
    have hn' := Lib.hid hn
    clear hn
    go_enter Try.func5, Try.ntmps5
    go_wp2_with (go_at_call 10; refine (HNAME.out _).mono ?_; rintro e w' ⟨bb, rfl, hbb, rfl⟩; have hbf : bb = false := (by cases bb with | false => rfl | true => exact absurd (hbb.1 rfl) hn'.out); subst hbf; clear hbb)
    go_ret
    exact RetChk.no (by omega) hno.out (by rw [HW1.out]; exact HB.out)
end Go.Proofs.Ytiokmfmcmfbjoaa
