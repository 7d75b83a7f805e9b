/-
  The document's machine: its walk. Own text.
-/
import Derived.Test.YtemldminpndemaaColldV
import Derived.Deep.LoopGhost
import Derived.Deep.DeepCutAuto
import Derived.RegionTactic
import Derived.BigRegion
import Derived.Deep.CutBlock
namespace Go.Proofs.Ytemldminpndemaa
open Go.RowKit
set_option linter.unusedVariables false
set_option maxRecDepth 100000 in
set_option maxHeartbeats 8000000 in
theorem collated_any {fs : List (List Pt)} {F : List Ft} {C : Nat} {A : Nat → Nat} {G : List Int} {P : List (List Int)} (oa : Option Addr) (so : Nat → Option Addr) (sc : Nat → Nat) (ca : Nat) (oF : Option Addr) (cF : Nat) (w : World) (hA : Args w fs oa so sc) (hF : Flat w 3 encFt oF F) (hok : FeedOk fs) (hfl : F.length ≤ 512)
    (hrun : Runs fs F 0 (fun _ => 0) [] [] C A G P) :
    Calls Try.prog 13 #[.slice oa fs.length ca, .slice oF F.length cF] w (RetColl C G P w) := by
  have hC := hrun.cap hok hfl
  have hlow := hok.low
  have HPOS := Lib.hid hok.pos
  have h1 := hok.one
  have h8 := hok.few
  have HA := Lib.hid hA
  have HF := Lib.hid hF
  have HLOW := Lib.hid hlow
  have HRUN := Lib.hid hrun
  obtain ⟨n, hn⟩ : ∃ n, n = fs.length := ⟨_, rfl⟩
  obtain ⟨M, hM⟩ : ∃ M, M = F.length := ⟨_, rfl⟩
  have HN := Lib.hid hn
  have HM := Lib.hid hM
  rw [← hn] at h1 h8 ⊢
  rw [← hM] at hfl ⊢
  clear hA hF hlow hrun hok hn hM
  have mk := run_makeArr elemIntT Try.underlying25 (.int .i64 0) rfl n (by omega) (by omega)
  go_enter Try.func13, Try.ntmps13
  go_wp2
  clear mk
  go_loopw [7, 8, 10] (fun vg vp i wr => ∃ c : Nat, c ≤ C ∧ i = .int .i64 c ∧ Hid (∃ a g p rv, CW w wr n a vg vp rv g p ∧ Within fs a ∧ Runs fs F c a g p C A G P ∧ p.length = g.length ∧ g.length ≤ c)) (fun _ _ i _ => C - (intOf i).toNat)
  case atStart => exact ⟨0, by omega, rfl, fun _ => 0, [], [], [], CW.start w n, fun k _ => Nat.zero_le _, HRUN.out, rfl, Nat.le_refl _⟩
  case round =>
    clear HRUN
    obtain ⟨c, hc, rfl, HX0⟩ := hrel
    obtain ⟨a0, g, p, rv, hcw0, hwi0, hrun0, hpl, hgl⟩ := HX0.out
    have HCW0 := Lib.hid hcw0
    have HWI0 := Lib.hid hwi0
    have HRUN0 := Lib.hid hrun0
    have HPL := Lib.hid hpl
    have HGL := Lib.hid hgl
    clear HX0 hcw0 hwi0 hrun0 hpl hgl
    obtain ⟨w1, rfl⟩ : ∃ w1 : World, w1 = wr := ⟨_, rfl⟩
    obtain ⟨vg, rfl⟩ : ∃ vg : Value, vg = u7 := ⟨_, rfl⟩
    obtain ⟨vp, rfl⟩ : ∃ vp : Value, vp = u8 := ⟨_, rfl⟩
    go_wp2
    go_loopg [11] (remTo fs a0 n * 2 + 1) (fun gk v wr => ∃ (a : Nat → Nat) (again : Bool), gk = remTo fs a n * 2 + (if again then 1 else 0) ∧ v = .bool again ∧ Hid (CW w wr n a vg vp rv g p) ∧ Hid (Within fs a) ∧ Hid (Runs fs F c a g p C A G P) ∧ Hid (again = false → hasEmpty fs a = false ∧ anyLag fs a = false))
    case atStart => exact ⟨a0, true, rfl, rfl, HCW0, HWI0, HRUN0, fun h => by cases h⟩
    case round =>
      clear HCW0 HWI0 HRUN0
      obtain ⟨a, again, hgk, rfl, HCW, HWI, HRN, HST⟩ := hrel
      have HGK := Lib.hid hgk
      clear hgk
      obtain ⟨w2, rfl⟩ : ∃ w2 : World, w2 = wr := ⟨_, rfl⟩
      cases again with
      | true =>
        clear HST
        go_wp2
        go_loopw [12, 36] (fun v i wr => ∃ k : Nat, k ≤ n ∧ i = .int .i64 k ∧ v = .int .i64 (mostTo fs a k) ∧ w2 = wr ∧ Hid (∀ j, j < k → (a j == ln fs j) = false)) (fun _ i _ => n - (intOf i).toNat)
        case atStart => exact ⟨0, by omega, rfl, rfl, rfl, fun j h => by omega⟩
        case round =>
          obtain ⟨k, hk, rfl, rfl, rfl, HE⟩ := hrel
          by_cases hlt : k < n
          · have hkx : k < fs.length := by have := HN.out; omega
            obtain ⟨ba, off, rfl, p0⟩ := (HA.out.below (HCW.out.bel)).hd k hkx
            have f1 : w2.cell? ⟨w.heap.size, k, none⟩ = some (.int .i64 (a k)) := HCW.out.nx.at' k hlt
            have kd : (k : Int) < (n : Int) := by omega
            have k0 : (0 : Int) ≤ (k : Int) := by omega
            by_cases he : a k = ln fs k
            · have hee : ((a k : Int) == (ln fs k : Int)) = true := by rw [he]; simp
              have hem : hasEmpty fs a = true := hasEmpty_yes hkx (by simpa using he)
              have HFIN : Hid (RetColl C G P w (.returned (.tuple #[vg, vp, .int .i64 c])) w2) := by
                obtain ⟨e1, e2, e3⟩ := HRN.out.empty hem
                rw [e1, e2, e3]
                exact ⟨vg, vp, rv, rfl, HCW.out.rep, HCW.out.bel⟩
              have HEE := Lib.hid he
              clear hem he
              obtain ⟨L, hL⟩ : ∃ L, L = ln fs k := ⟨_, rfl⟩
              rw [← hL] at p0 hee
              clear hL
              go_wp2
              go_ret3
              exact HFIN.out
            · have hlt2 : a k < ln fs k := by have := HWI.out k hkx; omega
              have hee : ((a k : Int) == (ln fs k : Int)) = false := by
                have h : ¬ (a k : Int) = (ln fs k : Int) := by omega
                exact beq_eq_false_iff_ne.2 h
              have hql : a k < fs[k].length := by rw [← ln_get fs k hkx]; exact hlt2
              obtain ⟨bo, oo, hso, i0, i1⟩ := ((HA.out.row k hkx).below HCW.out.bel).pt hql
              rw [← ptAt_get fs k (a k) hkx hql] at i0
              rw [hso] at p0
              have hms := mostTo_succ fs a k
              have hcp : cp fs k (a k) = (ptAt fs k (a k)).copy := rfl
              rw [hcp] at hms
              have HMS := Lib.hid hms
              have HNE : Hid (∀ j, j < k + 1 → (a j == ln fs j) = false) := fun j hj => by
                by_cases e : j = k
                · subst e; simpa using he
                · exact HE.out j (by omega)
              clear hms hcp he i1 hso
              obtain ⟨L, hL⟩ : ∃ L, L = ln fs k := ⟨_, rfl⟩
              rw [← hL] at p0 hee hlt2
              obtain ⟨x, hx⟩ : ∃ x, x = (ptAt fs k (a k)).copy := ⟨_, rfl⟩
              rw [← hx] at i0 HMS
              obtain ⟨y, hy⟩ : ∃ y, y = a k := ⟨_, rfl⟩
              rw [← hy] at f1 hee hlt2 i0
              obtain ⟨m, hm⟩ : ∃ m, m = mostTo fs a k := ⟨_, rfl⟩
              rw [← hm] at HMS ⊢
              have y1 : (y : Int) < (L : Int) := by omega
              have y0 : (0 : Int) ≤ (y : Int) := by omega
              clear hL hx hy hm hql
              go_wp2
              go_roundw
              case rel => exact ⟨k + 1, by omega, by go_num, (by have h := HMS.out; first | (rw [h]; done) | (rw [h]; congr 1; done) | (rw [h]; congr 1; split <;> omega)), trivial, HNE⟩
              case measure => simp [intOf]; omega
          · obtain rfl : n = k := by omega
            have hem : hasEmpty fs a = false := hasEmpty_none fun j hj => HE.out j (by have := HN.out; omega)
            have HEM := Lib.hid hem
            have hmn : mostTo fs a n = mostV fs a := by rw [HN.out]; rfl
            obtain ⟨m, hm⟩ : ∃ m, m = mostV fs a := ⟨_, rfl⟩
            rw [hmn, ← hm]
            have HMV := Lib.hid hm
            clear hmn hm hem HE
            have HLN : Hid (∀ k, k < n → a k < ln fs k) := fun k hk => hasEmpty_no HEM.out HWI.out (by have := HN.out; omega)
            go_wp2
            go_loopw [11, 64] (fun v i wr => ∃ k : Nat, k ≤ n ∧ i = .int .i64 k ∧ v = .bool (lagTo fs m a k) ∧ Hid (CW w wr n (midB fs m a k) vg vp rv g p)) (fun _ i _ => n - (intOf i).toNat)
            case atStart => exact ⟨0, by omega, rfl, rfl, by rw [midB_zero]; exact HCW.out⟩
            case round =>
              clear HCW
              obtain ⟨k, hk, rfl, rfl, HCW⟩ := hrel
              by_cases hlt : k < n
              · have hkx : k < fs.length := by have := HN.out; omega
                obtain ⟨ba, off, rfl, p0⟩ := (HA.out.below (HCW.out.bel)).hd k hkx
                have f1 : wr.cell? ⟨w.heap.size, k, none⟩ = some (.int .i64 (a k)) := by
                  have h := HCW.out.nx.at' k hlt
                  rw [midB_at] at h
                  exact h
                have ff := HCW.out.nx.fz
                have fl := HCW.out.sz
                have kd : (k : Int) < (n : Int) := by omega
                have k0 : (0 : Int) ≤ (k : Int) := by omega
                have hlt2 := HLN.out k hlt
                have hl5 := HLOW.out k
                have hql : a k < fs[k].length := by rw [← ln_get fs k hkx]; exact hlt2
                obtain ⟨bo, oo, hso, i0, i1⟩ := ((HA.out.row k hkx).below HCW.out.bel).pt hql
                rw [← ptAt_get fs k (a k) hkx hql] at i0
                rw [hso] at p0
                have hlg : lag fs m a k = (!((ptAt fs k (a k)).copy == 0) && decide ((ptAt fs k (a k)).copy < m)) := rfl
                have hcp0 : 0 ≤ (ptAt fs k (a k)).copy := HPOS.out k hkx (a k) hlt2
                have hls := lagTo_succ fs m a k
                obtain ⟨L, hL⟩ : ∃ L, L = ln fs k := ⟨_, rfl⟩
                rw [← hL] at p0 hlt2 hl5
                obtain ⟨x, hx⟩ : ∃ x, x = (ptAt fs k (a k)).copy := ⟨_, rfl⟩
                rw [← hx] at i0 hlg hcp0
                obtain ⟨b, hb⟩ : ∃ b, b = lag fs m a k := ⟨_, rfl⟩
                rw [← hb] at hlg hls
                have HKEEP : Hid (b = false → midB fs m a (k + 1) = midB fs m a k) := fun e => midB_keep fs m a k (by rw [← hb]; exact e)
                have HBUMP : Hid (b = true → midB fs m a (k + 1) = upd (midB fs m a k) k (a k + 1)) := fun e => midB_bump fs m a k (by rw [← hb]; exact e)
                have HLS := Lib.hid hls
                obtain ⟨y, hy⟩ : ∃ y, y = a k := ⟨_, rfl⟩
                rw [← hy] at f1 hlt2 i0 HBUMP
                have y1 : (y : Int) < (L : Int) := by omega
                have y0 : (0 : Int) ≤ (y : Int) := by omega
                clear hL hx hy hb hql hso i1 hls
                obtain ⟨lt, hlt0⟩ : ∃ lt, lt = lagTo fs m a k := ⟨_, rfl⟩
                rw [← hlt0] at HLS ⊢
                clear hlt0
                by_cases hx0 : 0 < x
                · by_cases hxm : x < m
                  · have hbt : b = true := by rw [hlg]; simp; omega
                    have HN5 : Hid (CW w (wr.setCell ⟨w.heap.size, k, none⟩ (.int .i64 ((y : Int) + 1))) n (midB fs m a (k + 1)) vg vp rv g p) := by
                      rw [HBUMP.out hbt]
                      exact HCW.out.set hlt (y + 1)
                    have HL5 : Hid (lagTo fs m a (k + 1) = true) := by show _ = _; rw [HLS.out, hbt]; simp
                    clear hbt hlg
                    go_wp2
                    go_roundw
                    case rel => exact ⟨k + 1, by omega, by go_num, (by rw [HL5.out]), HN5⟩
                    case measure => simp [intOf]; omega
                  · have hbt : b = false := by rw [hlg]; simp; omega
                    have HN5 : Hid (CW w wr n (midB fs m a (k + 1)) vg vp rv g p) := by
                      rw [HKEEP.out hbt]
                      exact HCW.out
                    have HL5 : Hid (lagTo fs m a (k + 1) = lt) := by show _ = _; rw [HLS.out, hbt]; simp
                    clear hbt hlg
                    go_wp2
                    go_roundw
                    case rel => exact ⟨k + 1, by omega, by go_num, (by rw [HL5.out]), HN5⟩
                    case measure => simp [intOf]; omega
                · have hbt : b = false := by
                    have : x = 0 := by omega
                    rw [hlg, this]; simp
                  have HN5 : Hid (CW w wr n (midB fs m a (k + 1)) vg vp rv g p) := by
                    rw [HKEEP.out hbt]
                    exact HCW.out
                  have HL5 : Hid (lagTo fs m a (k + 1) = lt) := by show _ = _; rw [HLS.out, hbt]; simp
                  clear hbt hlg
                  go_wp2
                  go_roundw
                  case rel => exact ⟨k + 1, by omega, by go_num, (by rw [HL5.out]), HN5⟩
                  case measure => simp [intOf]; omega
              · obtain rfl : n = k := by omega
                have hla : lagTo fs m a n = anyLag fs a := by rw [HMV.out, HN.out]; rfl
                rw [hla]
                have HCB : Hid (CW w wr n (bumpV fs m a) vg vp rv g p) := HCW.out.congr fun j hj => by unfold midB; rw [if_pos hj]
                clear hla
                cases hal : anyLag fs a with
                | true =>
                  have HAL := Lib.hid hal
                  clear hal
                  have HNX : Hid (remTo fs (bumpV fs m a) n * 2 + 1 < gk) := by
                    have h := rem_bump HEM.out HWI.out HAL.out
                    rw [← HMV.out, ← HN.out] at h
                    have h2 := HGK.out
                    show _ < _
                    simp at h2
                    omega
                  have HRB : Hid (Runs fs F c (bumpV fs m a) g p C A G P) := by rw [HMV.out]; exact HRN.out.bump HEM.out HAL.out
                  have HWB : Hid (Within fs (bumpV fs m a)) := bump_within HEM.out HWI.out m
                  clear HCW
                  go_wp2
                  go_roundg (remTo fs (bumpV fs m a) n * 2 + 1)
                  case measure => exact HNX.out
                  case rel => exact ⟨bumpV fs m a, true, rfl, rfl, HCB, HWB, HRB, fun h => by cases h⟩
                | false =>
                  have HAL := Lib.hid hal
                  clear hal
                  have HCE : Hid (CW w wr n a vg vp rv g p) := HCB.out.congr fun j hj => by
                    unfold bumpV
                    have h := List.any_eq_false.1 HAL.out j (List.mem_range.2 (by have := HN.out; omega))
                    rw [HMV.out]
                    rw [if_neg (by simpa using h)]
                  have HNX : Hid (remTo fs a n * 2 + 0 < gk) := by
                    have h2 := HGK.out
                    show _ < _
                    simp at h2
                    omega
                  have HSS : Hid (hasEmpty fs a = false ∧ anyLag fs a = false) := ⟨HEM.out, HAL.out⟩
                  clear HCW HCB
                  go_wp2
                  go_roundg (remTo fs a n * 2 + 0)
                  case measure => exact HNX.out
                  case rel => exact ⟨a, false, rfl, rfl, HCE, HWI, HRN, fun _ => HSS.out⟩
      | false =>
        obtain ⟨he, hl⟩ := HST.out rfl
        have HEM := Lib.hid he
        have HAL := Lib.hid hl
        clear he hl HST
        have HLN : Hid (∀ k, k < n → a k < ln fs k) := fun k hk => hasEmpty_no HEM.out HWI.out (by have := HN.out; omega)
        go_wp2
        go_loopw [18, 19, 20, 21, 93] (fun nm fi us tk i wr => ∃ k : Nat, k ≤ n ∧ i = .int .i64 k ∧ nm = .int .i64 (mostTo fs a k) ∧ fi = .bool (fineTo fs F c a k) ∧ Hid (UT w2 wr us tk (usedTo a k) (takeTo fs F c a k))) (fun _ _ _ _ i _ => n - (intOf i).toNat)
        case atStart => exact ⟨0, by omega, rfl, rfl, rfl, UT.start w2⟩
        case round =>
          obtain ⟨k, hk, rfl, rfl, rfl, HUT⟩ := hrel
          by_cases hlt : k < n
          · have hkx : k < fs.length := by have := HN.out; omega
            obtain ⟨w4, rfl⟩ : ∃ w4 : World, w4 = wr := ⟨_, rfl⟩
            obtain ⟨us, rfl⟩ : ∃ us : Value, us = u20 := ⟨_, rfl⟩
            obtain ⟨tk, rfl⟩ : ∃ tk : Value, tk = u21 := ⟨_, rfl⟩
            have HC4 := Lib.hid (HCW.out.below HUT.out.bel)
            obtain ⟨ba, off, rfl, p0⟩ := (HA.out.below (HC4.out.bel)).hd k hkx
            have kd : (k : Int) < (n : Int) := by omega
            have k0 : (0 : Int) ≤ (k : Int) := by omega
            have hlt2 := HLN.out k hlt
            have hl5 := HLOW.out k
            have HFZ := Lib.hid (fedH_zero fs F c a k)
            obtain ⟨L, hL⟩ : ∃ L, L = ln fs k := ⟨_, rfl⟩
            rw [← hL] at p0 hlt2 hl5
            have HLL := Lib.hid hL
            obtain ⟨y, hy⟩ : ∃ y, y = a k := ⟨_, rfl⟩
            rw [← hy] at hlt2
            have HYY := Lib.hid hy
            clear hL hy
            go_wp2
            clear p0
            go_loopw [24, 100] (fun v j wr => ∃ q : Nat, q ≤ M ∧ j = .int .i64 q ∧ v = .int .i64 (fedH fs F c a k q) ∧ Hid (Below w4.heap.size w4 wr)) (fun _ j _ => M - (intOf j).toNat)
            case atStart => exact ⟨0, by omega, rfl, (by rw [HFZ.out]; rfl), Below.refl _ _⟩
            case round =>
              obtain ⟨q, hq, rfl, rfl, HB⟩ := hrel
              have HC5 := Lib.hid (HC4.out.below HB.out)
              have f1 : wr.cell? ⟨w.heap.size, k, none⟩ = some (.int .i64 y) := by rw [HYY.out]; exact HC5.out.nx.at' k hlt
              have fl := HC5.out.sz
              by_cases hqt : q < M
              · have hqx : q < F.length := by have := HM.out; omega
                obtain ⟨bf, of', rfl, i0, i1, i2⟩ := (HF.out.below HC5.out.bel).ft hqx
                have HSU := Lib.hid (fedH_succ fs F c a k q hqx)
                obtain ⟨x, hx⟩ : ∃ x, x = F[q] := ⟨_, rfl⟩
                rw [← hx] at i0 i1 i2 HSU
                rw [← HLL.out, ← HYY.out] at HSU
                obtain ⟨xc, xf, xd⟩ := x
                dsimp only at i0 i1 i2 HSU
                have qd : (q : Int) < (M : Int) := by omega
                have q0 : (0 : Int) ≤ (q : Int) := by omega
                have fl2 : w.heap.size < wr.heap.size := by omega
                have HBX : Hid (Below w4.heap.size w4 (wr.alloc (.cells #[.int .i64 xc, .int .i64 xf, .bool xd] 34))) := HB.out.alloc HB.out.size _
                obtain ⟨v0, hv0⟩ : ∃ v0, v0 = fedH fs F c a k q := ⟨_, rfl⟩
                rw [← hv0] at HSU ⊢
                clear hx hv0 HB
                by_cases h1 : xc = (c : Int)
                · have e1 : (xc == (c : Int)) = true := by simpa using h1
                  by_cases h2 : xf = (k : Int)
                  · have e2 : (xf == (k : Int)) = true := by simpa using h2
                    have hh : hit c k ⟨xc, xf, xd⟩ = true := by simp [hit, h1, h2]
                    cases xd with
                    | true =>
                      have HS2 : Hid (fedH fs F c a k (q + 1) = min 2 (L - y)) := by
                        have h := HSU.out
                        rw [if_pos hh, if_pos rfl] at h
                        exact h
                      have HS3 : Hid (((fedH fs F c a k (q + 1) : Nat) : Int) = min 2 ((L : Int) - y)) := by
                        have h := HS2.out
                        show _ = _
                        omega
                      clear hh HSU h1 h2
                      go_wp2
                      go_roundw
                      case rel => exact ⟨q + 1, by omega, by go_num, (by have h := HS3.out; first | (rw [h]; done) | (rw [h]; congr 1; done) | (rw [h]; congr 1; split <;> omega)), HBX⟩
                      case measure => simp [intOf]; omega
                    | false =>
                      have HS2 : Hid (fedH fs F c a k (q + 1) = 0) := by
                        have h := HSU.out
                        rw [if_pos hh, if_neg (by decide)] at h
                        exact h
                      clear hh HSU h1 h2
                      go_wp2
                      go_roundw
                      case rel => exact ⟨q + 1, by omega, by go_num, (by rw [HS2.out]; rfl), HBX⟩
                      case measure => simp [intOf]; omega
                  · have e2 : (xf == (k : Int)) = false := by simpa using h2
                    have HS2 : Hid (fedH fs F c a k (q + 1) = v0) := by
                      have h := HSU.out
                      rw [if_neg (by simp [hit, h2])] at h
                      exact h
                    clear HSU h1 h2
                    go_wp2
                    go_roundw
                    case rel => exact ⟨q + 1, by omega, by go_num, (by rw [HS2.out]), HBX⟩
                    case measure => simp [intOf]; omega
                · have e1 : (xc == (c : Int)) = false := by simpa using h1
                  have HS2 : Hid (fedH fs F c a k (q + 1) = v0) := by
                    have h := HSU.out
                    rw [if_neg (by simp [hit, h1])] at h
                    exact h
                  clear HSU h1
                  go_wp2
                  go_roundw
                  case rel => exact ⟨q + 1, by omega, by go_num, (by rw [HS2.out]), HBX⟩
                  case measure => simp [intOf]; omega
              · obtain rfl : M = q := by omega
                have hfv : fedH fs F c a k M = fedV fs F c a k := by rw [HM.out]; exact fedH_all fs F c a k
                rw [hfv]
                obtain ⟨w5, rfl⟩ : ∃ w5 : World, w5 = wr := ⟨_, rfl⟩
                have HU5 := Lib.hid (HUT.out.below HB.out)
                have hql : a k < fs[k].length := by have h := HLN.out k hlt; rw [ln_get fs k hkx] at h; exact h
                obtain ⟨bo, oo, hso, i0, i1⟩ := ((HA.out.row k hkx).below HC5.out.bel).pt hql
                rw [← ptAt_get fs k (a k) hkx hql, ← HYY.out] at i0 i1
                rw [hso]
                have hms := mostTo_succ fs a k
                have hcp : cp fs k (a k) = (ptAt fs k (a k)).copy := rfl
                rw [hcp, ← HYY.out] at hms
                have hfs := fineTo_succ fs F c a k
                have hsp : sp fs k (a k) = (ptAt fs k (a k)).spoil := rfl
                rw [hsp, ← HYY.out] at hfs
                have hfl2 : fedV fs F c a k ≤ L := by
                  have h := fedOf_le (ln fs k - a k) (F.filter (hit c k)) (by have := HLN.out k hlt; omega)
                  rw [HLL.out]
                  unfold fedV
                  omega
                obtain ⟨x, hx⟩ : ∃ x, x = (ptAt fs k y).copy := ⟨_, rfl⟩
                rw [← hx] at i0 hms
                obtain ⟨sb, hsb⟩ : ∃ sb, sb = (ptAt fs k y).spoil := ⟨_, rfl⟩
                rw [← hsb] at i1 hfs
                obtain ⟨fv, hfv2⟩ : ∃ fv, fv = fedV fs F c a k := ⟨_, rfl⟩
                rw [← hfv2] at hfs hfl2 ⊢
                have HFV := Lib.hid hfv2
                obtain ⟨b0, hb0⟩ : ∃ b0, b0 = fineTo fs F c a k := ⟨_, rfl⟩
                rw [← hb0] at hfs ⊢
                obtain ⟨m, hm⟩ : ∃ m, m = mostTo fs a k := ⟨_, rfl⟩
                rw [← hm] at hms ⊢
                have HMS := Lib.hid hms
                have HFS := Lib.hid hfs
                have y1 : (y : Int) < (L : Int) := by omega
                have y0 : (0 : Int) ≤ (y : Int) := by omega
                clear hx hsb hfv hfv2 hb0 hm hms hfs hcp hsp hql hso HUT HB HC4
                go_upto_region 40 with fail
                go_cut [19] (fun s19 wx => s19 = .bool (fineTo fs F c a (k + 1)) ∧ w5 = wx)
                case first =>
                  cases b0 with
                  | false =>
                    have HF5 : Hid (fineTo fs F c a (k + 1) = false) := by show _ = _; rw [HFS.out]; rfl
                    clear HFS
                    go_wp2_with fail
                    go_meet
                    exact ⟨by rw [HF5.out], rfl⟩
                  | true =>
                    by_cases h1 : fv = 1
                    · have e1 : ((fv : Int) == 1) = true := by subst h1; rfl
                      have HF5 : Hid (fineTo fs F c a (k + 1) = !sb) := by show _ = _; rw [HFS.out, h1]; simp
                      clear HFS h1
                      go_wp2_with fail
                      go_meet
                      exact ⟨by rw [HF5.out], rfl⟩
                    · have e1 : ((fv : Int) == 1) = false := beq_eq_false_iff_ne.2 (by omega)
                      have HF5 : Hid (fineTo fs F c a (k + 1) = false) := by
                        have h2 : (fv == 1) = false := beq_eq_false_iff_ne.2 h1
                        show _ = _
                        rw [HFS.out, h2]
                        simp
                      clear HFS h1
                      go_wp2_with fail
                      go_meet
                      exact ⟨by rw [HF5.out], rfl⟩
                case rest =>
                  obtain ⟨rfl, rfl⟩ := hcut
                  have HXE : Hid (usedTo a (k + 1) = usedTo a k ++ [(y : Int)]) := by show _ = _; rw [usedTo_succ, HYY.out]
                  have HTE : Hid (takeTo fs F c a (k + 1) = takeTo fs F c a k ++ [(fv : Int)]) := by show _ = _; rw [takeTo_succ, HFV.out]
                  have HXL : Hid ((usedTo a k).length ≤ 8) := by show _ ≤ _; rw [usedTo_len]; omega
                  have HTL : Hid ((takeTo fs F c a k).length ≤ 8) := by show _ ≤ _; rw [takeTo_len]; omega
                  obtain ⟨xs, hxs⟩ : ∃ xs, xs = usedTo a k := ⟨_, rfl⟩
                  obtain ⟨ys, hys⟩ : ∃ ys, ys = takeTo fs F c a k := ⟨_, rfl⟩
                  rw [← hxs] at HU5 HXE HXL
                  rw [← hys] at HU5 HTE HTL
                  have HU6 := Lib.hid (HU5.out.below (balloc (Below.refl _ w5) (.cells #[.int .i64 y] 3)))
                  have HNEW : Hid (∀ (j : Nat) (u : Value), (encInt (y : Int))[j]? = some u → (w5.alloc (.cells #[.int .i64 y] 3)).cell? ((⟨w5.heap.size, 0, none⟩ : Addr).add j) = some u) := World.news_of_block (cs := #[.int .i64 y]) (t := 3) (fr := (0, 0)) (heap_alloc_new w5 _)
                  clear hxs hys HU5 HFS i0 i1
                  go_wp2_with (at_builtin; refine wpList_appAt rfl (.tmp 151) (.tmp 156) 25 rfl elemIntT Try.underlying25 w2.heap.size us xs encInt rfl HU6.out.ou (y : Int) ⟨w5.heap.size, 0, none⟩ 1 rfl rfl HNEW.out ?c1 ?c2 ?c3 ?c4 ?_)
                  case c1 => simp [encInt, Value.oneCell']
                  case c2 => have := HXL.out; omega
                  case c3 => have := HXL.out; unfold maxLen; omega
                  case c4 => exact HU6.out.bel.size
                  intro us7 w7 hown7 hg7 hat7
                  obtain ⟨xs7, hxs7⟩ : ∃ xs7, xs7 = xs ++ [(y : Int)] := ⟨_, rfl⟩
                  rw [← hxs7] at hown7 HXE
                  have HU7 := Lib.hid (HU6.out.addU hown7 hg7 (by simpa using hat7))
                  have HU8 := Lib.hid (HU7.out.below (balloc (Below.refl _ w7) (.cells #[.int .i64 fv] 3)))
                  have HNEW2 : Hid (∀ (j : Nat) (u : Value), (encInt (fv : Int))[j]? = some u → (w7.alloc (.cells #[.int .i64 fv] 3)).cell? ((⟨w7.heap.size, 0, none⟩ : Addr).add j) = some u) := World.news_of_block (cs := #[.int .i64 fv]) (t := 3) (fr := (0, 0)) (heap_alloc_new w7 _)
                  clear hown7 hg7 hat7 HU6 HU7 HNEW hxs7 f1
                  go_wp2_with (at_builtin; refine wpList_appAt rfl (.tmp 158) (.tmp 160) 25 rfl elemIntT Try.underlying25 w2.heap.size tk ys encInt rfl HU8.out.ot (fv : Int) ⟨w7.heap.size, 0, none⟩ 1 rfl rfl HNEW2.out ?d1 ?d2 ?d3 ?d4 ?_)
                  case d1 => simp [encInt, Value.oneCell']
                  case d2 => have := HTL.out; omega
                  case d3 => have := HTL.out; unfold maxLen; omega
                  case d4 => exact HU8.out.bel.size
                  intro tk9 w9 hown9 hg9 hat9
                  obtain ⟨ys9, hys9⟩ : ∃ ys9, ys9 = ys ++ [(fv : Int)] := ⟨_, rfl⟩
                  rw [← hys9] at hown9 HTE
                  have HU9 : Hid (UT w2 w9 us7 tk9 (usedTo a (k + 1)) (takeTo fs F c a (k + 1))) := by
                    show UT _ _ _ _ _ _
                    rw [HXE.out, HTE.out]
                    exact HU8.out.addT hown9 hg9 (by simpa using hat9)
                  clear hown9 hg9 hat9 HU8 HNEW2 hys9
                  go_wp2
                  go_roundw
                  case rel => exact ⟨k + 1, by omega, by go_num, (by have h := HMS.out; first | (rw [h]; done) | (rw [h]; congr 1; done) | (rw [h]; congr 1; split <;> omega)), rfl, HU9⟩
                  case measure => simp [intOf]; omega
          · obtain rfl : n = k := by omega
            obtain ⟨w4, rfl⟩ : ∃ w4 : World, w4 = wr := ⟨_, rfl⟩
            obtain ⟨us, rfl⟩ : ∃ us : Value, us = u20 := ⟨_, rfl⟩
            obtain ⟨tk, rfl⟩ : ∃ tk : Value, tk = u21 := ⟨_, rfl⟩
            have HMV : Hid (mostTo fs a n = mostV fs a) := by show _ = _; rw [HN.out]; rfl
            have HFV : Hid (fineTo fs F c a n = fineV fs F c a) := by show _ = _; rw [HN.out]; rfl
            have HUE : Hid (usedTo a n = usedV fs a) := by show _ = _; rw [HN.out]; rfl
            rw [HMV.out, HFV.out]
            obtain ⟨ou, lu, cu, rfl⟩ : ∃ ou lu cu, us = .slice ou lu cu := by
              obtain ⟨ou, cu, e, -, -⟩ := HUT.out.ou.flat (fun _ => rfl)
              exact ⟨ou, _, cu, e⟩
            obtain ⟨ot, ct, e9, -, -⟩ := HUT.out.ot.flat (fun _ => rfl)
            rw [takeTo_len] at e9
            subst e9
            have HZZ : Hid (w.heap.size + 1 ≤ w2.heap.size) := HCW.out.sz
            have HST : Hid (CW w w4 n (midS a (fedV fs F c a) 0) vg vp rv g p ∧ Own w4 w2.heap.size 3 1 encInt (.slice ou lu cu) (usedV fs a) ∧ Own w4 w2.heap.size 3 1 encInt (.slice ot n ct) (takeTo fs F c a n)) := by
              refine ⟨?_, ?_, HUT.out.ot⟩
              · rw [midS_zero]; exact HCW.out.below HUT.out.bel
              · rw [← HUE.out]; exact HUT.out.ou
            have HVG : Hid ((∀ b, vg.ownBlock = some b → b < w2.heap.size) ∧ ∀ b, vp.ownBlock = some b → b < w2.heap.size) := ⟨fun b hb => (HCW.out.rep.og.lt hb).2, fun b hb => (HCW.out.rep.op.lt hb).2⟩
            obtain ⟨m, hm⟩ : ∃ m, m = mostV fs a := ⟨_, rfl⟩
            obtain ⟨fi, hfi⟩ : ∃ fi, fi = fineV fs F c a := ⟨_, rfl⟩
            rw [← hm, ← hfi]
            have HMM := Lib.hid hm
            have HFI := Lib.hid hfi
            have HFL : Hid (∀ k, k < n → a k + fedV fs F c a k ≤ ln fs k) := fun k hk => goOn_within HEM.out HWI.out k (by have := HN.out; omega)
            clear hm hfi HUT HCW HMV HFV HUE
            go_wp2
            go_loopw [165] (fun i wr => ∃ k : Nat, k ≤ n ∧ i = .int .i64 k ∧ Hid (CW w wr n (midS a (fedV fs F c a) k) vg vp rv g p ∧ Own wr w2.heap.size 3 1 encInt (.slice ou lu cu) (usedV fs a) ∧ Own wr w2.heap.size 3 1 encInt (.slice ot n ct) (takeTo fs F c a n))) (fun i _ => n - (intOf i).toNat)
            case atStart => exact ⟨0, by omega, rfl, HST.out⟩
            case round =>
              clear HST
              obtain ⟨k, hk, rfl, HX⟩ := hrel
              by_cases hlt : k < n
              · have hkx : k < fs.length := by have := HN.out; omega
                obtain ⟨bt, ft, cc, e8, t0⟩ := ownI_at HX.out.2.2 (i := k) (by rw [takeTo_len]; exact hlt)
                simp only [Value.slice.injEq] at e8
                obtain ⟨rfl, -, rfl⟩ := e8
                rw [takeTo_get] at t0
                have hbt := (HX.out.2.2.lt (g := bt) rfl).1
                have f1 : wr.cell? ⟨w.heap.size, k, none⟩ = some (.int .i64 (a k)) := by
                  have h := HX.out.1.nx.at' k hlt
                  rw [midS_at] at h
                  exact h
                have ff := HX.out.1.nx.fz
                have kd : (k : Int) < (n : Int) := by omega
                have k0 : (0 : Int) ≤ (k : Int) := by omega
                have hfl := HFL.out k hlt
                have hll := HLOW.out k
                have HMN := Lib.hid (midS_next a (fedV fs F c a) k)
                obtain ⟨fv, hfv⟩ : ∃ fv, fv = fedV fs F c a k := ⟨_, rfl⟩
                rw [← hfv] at t0 hfl HMN
                obtain ⟨y, hy⟩ : ∃ y, y = a k := ⟨_, rfl⟩
                rw [← hy] at f1 hfl HMN
                have hne : w.heap.size ≠ bt := by have := HZZ.out; omega
                have hne2 : bt ≠ w.heap.size := fun e => hne e.symm
                have ws : IntKind.i64.wrap ((y : Int) + (fv : Int)) = (y : Int) + (fv : Int) := IntWalk.i64_in _ (by omega)
                have HNX : Hid (CW w ((wr.setCell ⟨w.heap.size, k, none⟩ (.int .i64 ((y : Int) + (fv : Int)))).drew) n (midS a (fedV fs F c a) (k + 1)) vg vp rv g p ∧ Own ((wr.setCell ⟨w.heap.size, k, none⟩ (.int .i64 ((y : Int) + (fv : Int)))).drew) w2.heap.size 3 1 encInt (.slice ou lu cu) (usedV fs a) ∧ Own ((wr.setCell ⟨w.heap.size, k, none⟩ (.int .i64 ((y : Int) + (fv : Int)))).drew) w2.heap.size 3 1 encInt (.slice (some ⟨bt, ft, none⟩) n ct) (takeTo fs F c a n)) := by
                  have hz := HZZ.out
                  refine ⟨?_, ?_, ?_⟩
                  · rw [HMN.out]
                    have h := HX.out.1.set hlt (y + fv)
                    have h2 := h.below (bdrewN (Below.refl _ _) 1)
                    exact h2
                  · exact (HX.out.2.1.blocks fun b hb => Below.heap_setCell _ _ _ _ fun e => by have h1 := (HX.out.2.1.lt hb).1; have e' : b = w.heap.size := e; omega)
                  · exact (HX.out.2.2.blocks fun b hb => Below.heap_setCell _ _ _ _ fun e => by have h1 := (HX.out.2.2.lt hb).1; have e' : b = w.heap.size := e; omega)
                clear hfv hy hbt HX
                go_wp2
                go_region
                all_goals
                  go_wp2
                  go_roundw
                  case rel => exact ⟨k + 1, by omega, by go_num, HNX⟩
                  case measure => simp [intOf]; omega
              · obtain rfl : n = k := by omega
                obtain ⟨w5, rfl⟩ : ∃ w5 : World, w5 = wr := ⟨_, rfl⟩
                have HCG : Hid (CW w w5 n (goOn fs F c a) vg vp rv g p) := HX.out.1.congr fun j hj => by unfold midS goOn; rw [if_pos hj]
                have HOU : Hid (Own w5 w2.heap.size 3 1 encInt (.slice ou lu cu) (usedV fs a)) := HX.out.2.1
                have HRS := Lib.hid (HRN.out.same HEM.out HAL.out)
                have HWG : Hid (Within fs (goOn fs F c a)) := goOn_within HEM.out HWI.out
                have HCC : Hid (c + 1 ≤ C) := HRS.out.le
                rw [← HMM.out, ← HFI.out] at HRS
                clear HX
                cases fi with
                | false =>
                  have HNX : Hid (∃ a g p rv, CW w w5 n a vg vp rv g p ∧ Within fs a ∧ Runs fs F (c + 1) a g p C A G P ∧ p.length = g.length ∧ g.length ≤ c + 1) := ⟨_, g, p, rv, HCG.out, HWG.out, HRS.out, HPL.out, Nat.le_succ_of_le HGL.out⟩
                  have hcc : c + 1 ≤ C := HCC.out
                  go_wp2
                  go_roundw
                  case rel => exact ⟨c + 1, hcc, by go_num, HNX⟩
                  case measure => simp [intOf]; omega
                | true =>
                  have hgl := HGL.out
                  have HCX := Lib.hid (HCG.out.below (balloc (Below.refl _ w5) (.cells #[.int .i64 m] 3)))
                  have HOX := Lib.hid (HOU.out.alloc (.cells #[.int .i64 m] 3))
                  have HNEW : Hid (∀ (j : Nat) (u : Value), (encInt m)[j]? = some u → (w5.alloc (.cells #[.int .i64 m] 3)).cell? ((⟨w5.heap.size, 0, none⟩ : Addr).add j) = some u) := World.news_of_block (cs := #[.int .i64 m]) (t := 3) (fr := (0, 0)) (heap_alloc_new w5 _)
                  have hcc : c + 1 ≤ C := HCC.out
                  go_wp2_with (at_builtin; refine wpList_appAt rfl (.tmp 180) (.tmp 182) 25 rfl elemIntT Try.underlying25 (w.heap.size + 1) vg g encInt rfl HCX.out.rep.og m ⟨w5.heap.size, 0, none⟩ 1 rfl rfl HNEW.out ?c1 ?c2 ?c3 ?c4 ?_)
                  case c1 => simp [encInt, Value.oneCell']
                  case c2 => omega
                  case c3 => unfold maxLen; omega
                  case c4 => exact HCX.out.sz
                  intro vg7 w7 hown7 hg7 hat7
                  have HC7 := Lib.hid (HCX.out.addG hown7 hg7 (by simpa using hat7))
                  have HO7 : Hid (Own w7 w2.heap.size 3 1 encInt (.slice ou lu cu) (usedV fs a)) := HOX.out.blocks fun b hb => hg7.block b (HOX.out.lt hb).2 fun e => by
                    have h1 := HVG.out.1 b e.symm
                    have h2 := (HOX.out.lt hb).1
                    omega
                  have HNE7 : Hid (∀ b, (Value.slice ou lu cu).ownBlock = some b → vg7.ownBlock ≠ some b ∧ vp.ownBlock ≠ some b) := fun b hb => by
                    have h2 := HOX.out.lt hb
                    rw [World.size_alloc] at h2
                    refine ⟨fun e => ?_, fun e => by have := HVG.out.2 b e; omega⟩
                    rcases hat7 with e2 | e2
                    · have := HVG.out.1 b (e2 ▸ e); omega
                    · rw [e2] at e
                      cases e
                      omega
                  clear hown7 hg7 hat7 HCX HOX HNEW HCG HOU
                  have HC8 := Lib.hid (HC7.out.below (balloc (Below.refl _ w7) (.cells #[.slice ou lu cu] 25)))
                  have HO8 := Lib.hid ((HO7.out.alloc (.cells #[.slice ou lu cu] 25)).rebase HZZ.out)
                  have HNEW : Hid (∀ (j : Nat) (u : Value), (encV (.slice ou lu cu))[j]? = some u → (w7.alloc (.cells #[.slice ou lu cu] 25)).cell? ((⟨w7.heap.size, 0, none⟩ : Addr).add j) = some u) := World.news_of_block (cs := #[.slice ou lu cu]) (t := 25) (fr := (0, 0)) (heap_alloc_new w7 _)
                  have HRL : Hid (rv.length ≤ c) := by have h1 := HC7.out.rep.len; have h2 := HPL.out; show _ ≤ _; omega
                  clear HC7 HO7
                  go_wp2_with (at_builtin; refine wpList_appAt rfl (.tmp 184) (.tmp 186) 26 rfl elemRowT Try.underlying26 (w.heap.size + 1) vp rv encV rfl HC8.out.rep.op (.slice ou lu cu) ⟨w7.heap.size, 0, none⟩ 1 rfl rfl HNEW.out ?d1 ?d2 ?d3 ?d4 ?_)
                  case d1 => simp [encV, Value.oneCell']
                  case d2 => have := HRL.out; omega
                  case d3 => have := HRL.out; unfold maxLen; omega
                  case d4 => exact HC8.out.sz
                  intro vp9 w9 hown9 hg9 hat9
                  have HC9 := Lib.hid (HC8.out.addP HO8.out HNE7.out hown9 hg9 (by simpa using hat9))
                  have HNX : Hid (∃ a g p rv, CW w w9 n a vg7 vp9 rv g p ∧ Within fs a ∧ Runs fs F (c + 1) a g p C A G P ∧ p.length = g.length ∧ g.length ≤ c + 1) := by
                    refine ⟨_, _, _, _, HC9.out, HWG.out, HRS.out, ?_, ?_⟩
                    · have := HPL.out; simp; omega
                    · simp; omega
                  clear hown9 hg9 hat9 HC8 HO8 HNEW
                  go_wp2
                  go_roundw
                  case rel => exact ⟨c + 1, hcc, by go_num, HNX⟩
                  case measure => simp [intOf]; omega
end Go.Proofs.Ytemldminpndemaa
