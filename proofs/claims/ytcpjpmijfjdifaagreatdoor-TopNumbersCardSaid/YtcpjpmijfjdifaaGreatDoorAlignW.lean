/-
  The walk of the machine's align. Own text.
-/
import Derived.Test.YtcpjpmijfjdifaaGreatDoorAlign
namespace Go.Proofs.YtcpjpmijfjdifaaGreatDoor
open Go.RowKit
set_option linter.unusedVariables false
theorem next_at {w0 w : World} {fs : List (List Pt)} {so : Nat → Option Addr} {sc : Nat → Nat} {mb bf cf : Nat} {fb a : Nat → Nat} {u : Nat → Int} {vg vp : Value} {c : Nat} (h : Mach w0 w fs so sc mb bf cf fb a u vg vp c) {k : Nat} (hk : k < fs.length) (ha : a k < ln fs k) :
    Calls Tryz.prog 41 #[.pointer (some ⟨fb k, 0, none⟩)] w (RetDrew (.int .i64 (cp fs k (a k))) w) := by
  have ha' : a k < fs[k].length := by rw [← ln_get fs k hk]; exact ha
  have h1 := next_any (fb k) (so k) (sc k) fs[k] (a k) (u k) w (h.fat hk) ha' (by have := h.low k; rw [ln_get fs k hk] at this; exact this)
  have e : cp fs k (a k) = fs[k][a k].copy := by unfold cp; rw [ptAt_get fs k (a k) hk ha']
  rw [e]
  exact h1
theorem waste_at {w0 w : World} {fs : List (List Pt)} {so : Nat → Option Addr} {sc : Nat → Nat} {mb bf cf : Nat} {fb a : Nat → Nat} {G : Nat} {vg vp : Value} {c B Z : Nat} (h : Mach w0 w fs so sc mb bf cf fb a (lessG a G) vg vp c) (L : Lay fs.length mb bf fb B Z) (hB : w0.heap.size ≤ B) {k : Nat} (hk : k < fs.length) (m : Nat) (ha : a k + m ≤ ln fs k) (hG : G ≤ a k) :
    Calls Tryz.prog 42 #[.pointer (some ⟨fb k, 0, none⟩), .int .i64 m] w (fun e w' => e = .returned (.tuple #[]) ∧ Mach w0 w' fs so sc mb bf cf fb (upd a k (a k + m)) (lessG (upd a k (a k + m)) G) vg vp c ∧ Calm Z w w') := by
  have hlow := h.low k
  rw [ln_get fs k hk] at ha hlow
  refine (waste_any (fb k) (so k) (sc k) fs[k] (a k) m (lessG a G k) w (h.fat hk) ha hlow (by unfold lessG; omega) (by unfold lessG; omega)).mono ?_
  rintro e w' ⟨rfl, q, rfl⟩
  refine ⟨rfl, ?_, (((Calm.refl Z w).drewN q).set (L.hif k hk) 1 _).set (L.hif k hk) 2 _⟩
  have h1 := ((h.drewN q).setA L hB hk (a k + m)).setU L hB hk (lessG a G k + m)
  rw [lessG_upd]
  have e1 : (a k : Int) + (m : Int) = ((a k + m : Nat) : Int) := by omega
  have e2 : lessG a G k + (m : Int) = ((a k + m : Nat) : Int) - (G : Int) := by unfold lessG; omega
  rw [e1, e2]
  rw [e2] at h1
  exact h1
set_option maxRecDepth 100000 in
set_option maxHeartbeats 4000000 in
theorem align_any {w0 w : World} {fs : List (List Pt)} {so : Nat → Option Addr} {sc : Nat → Nat} {mb bf cf : Nat} {fb a : Nat → Nat} {G : Nat} {vg vp : Value} {c B Z : Nat} (h : Mach w0 w fs so sc mb bf cf fb a (lessG a G) vg vp c) (L : Lay fs.length mb bf fb B Z) (hB : w0.heap.size ≤ B) (hw : Within fs a) (hG : ∀ k, k < fs.length → G ≤ a k) :
    Calls Tryz.prog 23 #[.pointer (some ⟨mb, 0, none⟩)] w (RetAlign w0 w Z fs so sc mb bf cf fb a G vg vp c) := by
  have hfew := h.few
  have H := Lib.hid h
  have HW := Lib.hid hw
  have HL := Lib.hid L
  have HG := Lib.hid hG
  have HB := Lib.hid hB
  obtain ⟨n, hn⟩ : ∃ n, n = fs.length := ⟨_, rfl⟩
  rw [← hn] at hfew
  have HN := Lib.hid hn
  clear h hw hn L hG hB
  go_enter Tryz.func23, Tryz.ntmps23
  go_wp2
  go_loopg [] (remTo fs a fs.length) (fun g wr => ∃ a1, g = remTo fs a1 fs.length ∧ Hid (Mach w0 wr fs so sc mb bf cf fb a1 (lessG a1 G) vg vp c ∧ Calm Z w wr ∧ Within fs a1 ∧ (∀ k, k < fs.length → G ≤ a1 k) ∧ ∀ r a', Align fs a1 r a' → Align fs a r a'))
  case atStart => exact ⟨a, rfl, H.out, Calm.refl _ _, HW.out, HG.out, fun _ _ h => h⟩
  case round =>
    obtain ⟨a1, hg, HR⟩ := hrel
    have HGK := Lib.hid hg
    clear hg
    obtain ⟨w1, rfl⟩ : ∃ w1 : World, w1 = wr := ⟨_, rfl⟩
    cases hem : hasEmpty fs a1 with
    | true =>
      have HE := Lib.hid (empty_any HR.out.1 HR.out.2.2.1 true hem)
      have HEM := Lib.hid hem
      clear hem
      go_wp2_with fail
      refine HE.out.mono ?_
      rintro e w2 ⟨rfl, q, rfl⟩
      have HF : Hid (RetAlign w0 w Z fs so sc mb bf cf fb a G vg vp c (.returned (.tuple #[.int .i64 0, .bool false])) (w1.drewN q)) :=
        ⟨none, a1, rfl, HR.out.2.2.2.2 _ _ (.stop a1 HEM.out), HR.out.1.drewN q, HR.out.2.1.drewN q⟩
      clear HE HR
      go_wp2
      go_ret2
      exact HF.out
    | false =>
      have HE := Lib.hid (empty_any HR.out.1 HR.out.2.2.1 false hem)
      have HEM := Lib.hid hem
      clear hem
      go_wp2_with fail
      refine HE.out.mono ?_
      rintro e w2 ⟨rfl, q, rfl⟩
      have HM2 : Hid (Mach w0 (w1.drewN q) fs so sc mb bf cf fb a1 (lessG a1 G) vg vp c) := HR.out.1.drewN q
      have HC2 : Hid (Calm Z w (w1.drewN q)) := HR.out.2.1.drewN q
      have HR2 := Lib.hid HR.out.2.2
      clear HE HR
      generalize w1.drewN q = w2 at *
      have c0 : w2.cell? ⟨mb, 0, none⟩ = some (.slice (some ⟨bf, 0, none⟩) n cf) := by rw [HN.out]; exact HM2.out.tab.at' 0 (by omega)
      go_wp2
      go_loopw [4, 18] (fun v i wr => ∃ k : Nat, k ≤ n ∧ i = .int .i64 k ∧ v = .int .i64 (mostTo fs a1 k) ∧ Hid (∃ q, wr = w2.drewN q)) (fun _ i _ => n - (intOf i).toNat)
      case atStart => exact ⟨0, by omega, rfl, rfl, 0, rfl⟩
      case round =>
        obtain ⟨k, hk, rfl, rfl, HQ⟩ := hrel
        have HM3 : Hid (Mach w0 wr fs so sc mb bf cf fb a1 (lessG a1 G) vg vp c) := by obtain ⟨q, hq⟩ := HQ.out; rw [hq]; exact HM2.out.drewN q
        by_cases hlt : k < n
        · have hkx : k < fs.length := by have := HN.out; omega
          have p0 : wr.cell? ⟨bf, k, none⟩ = some (.pointer (some ⟨fb k, 0, none⟩)) := HM3.out.ptr k hkx
          have HNX := Lib.hid (next_at HM3.out hkx (hasEmpty_no HEM.out HR2.out.1 hkx))
          have kd : (k : Int) < (n : Int) := by omega
          have k0 : (0 : Int) ≤ (k : Int) := by omega
          have hms := (mostTo_succ fs a1 k).symm
          obtain ⟨m', hm'⟩ : ∃ m', m' = mostTo fs a1 (k + 1) := ⟨_, rfl⟩
          rw [← hm'] at hms
          have HMS := Lib.hid hm'
          have HMX := Lib.hid hms
          clear hm' hms
          generalize mostTo fs a1 k = m at *
          generalize cp fs k (a1 k) = x at *
          clear c0
          go_wp2_with fail
          refine HNX.out.mono ?_
          rintro e w4 ⟨rfl, q4, rfl⟩
          have HQ4 : Hid (∃ q, wr.drewN q4 = w2.drewN q) := by obtain ⟨q, hq⟩ := HQ.out; exact ⟨q + q4, by rw [hq, drewN_drewN]⟩
          clear HNX HM3 HQ p0
          generalize wr.drewN q4 = w4 at *
          go_wp2
          go_roundw
          case rel => exact ⟨k + 1, by omega, by go_num, (by rw [← HMS.out, ← HMX.out]; congr 1; split <;> omega), HQ4⟩
          case measure => simp [intOf]; omega
        · obtain rfl : n = k := by omega
          obtain ⟨w3, rfl⟩ : ∃ w3 : World, w3 = wr := ⟨_, rfl⟩
          have HC3 : Hid (Calm Z w w3) := by obtain ⟨q, hq⟩ := HQ.out; rw [hq]; exact HC2.out.drewN q
          have hmn : mostTo fs a1 n = mostV fs a1 := by rw [HN.out]; rfl
          obtain ⟨m, hm⟩ : ∃ m, m = mostV fs a1 := ⟨_, rfl⟩
          rw [← hm] at hmn
          rw [hmn]
          have HMV := Lib.hid hm
          clear hmn hm c0 HM2 HC2 HQ
          have c0 : w3.cell? ⟨mb, 0, none⟩ = some (.slice (some ⟨bf, 0, none⟩) n cf) := by rw [HN.out]; exact HM3.out.tab.at' 0 (by omega)
          go_wp2
          go_loopw [7, 32] (fun v i wr => ∃ k : Nat, k ≤ n ∧ i = .int .i64 k ∧ v = .bool (!lagTo fs m a1 k) ∧ Hid (Mach w0 wr fs so sc mb bf cf fb (midB fs m a1 k) (lessG (midB fs m a1 k) G) vg vp c ∧ Calm Z w wr)) (fun _ i _ => n - (intOf i).toNat)
          case atStart => exact ⟨0, by omega, rfl, rfl, by rw [midB_zero]; exact HM3.out, HC3.out⟩
          case round =>
            clear HM3 HC3 c0
            obtain ⟨k, hk, rfl, rfl, HX⟩ := hrel
            by_cases hlt : k < n
            · have hkx : k < fs.length := by have := HN.out; omega
              have p0 : wr.cell? ⟨bf, k, none⟩ = some (.pointer (some ⟨fb k, 0, none⟩)) := HX.out.1.ptr k hkx
              have HNX : Hid (∀ q, Calls Tryz.prog 41 #[.pointer (some ⟨fb k, 0, none⟩)] (wr.drewN q) (RetDrew (.int .i64 (cp fs k (a1 k))) (wr.drewN q))) := fun q => by
                have h1 := next_at (HX.out.1.drewN q) hkx (by rw [midB_at]; exact hasEmpty_no HEM.out HR2.out.1 hkx)
                rw [midB_at] at h1
                exact h1
              have kd : (k : Int) < (n : Int) := by omega
              have k0 : (0 : Int) ≤ (k : Int) := by omega
              have HLS := Lib.hid (lagTo_succ fs m a1 k)
              have HLG : Hid (lag fs m a1 k = (!(cp fs k (a1 k) == 0) && decide (cp fs k (a1 k) < m))) := rfl
              obtain ⟨x, hx⟩ : ∃ x, x = cp fs k (a1 k) := ⟨_, rfl⟩
              rw [← hx] at HNX HLG
              have h0 := HNX.out 0
              clear hx
              go_wp2_with fail
              refine h0.mono ?_
              rintro e w4 ⟨rfl, q4, rfl⟩
              have h1 := HNX.out (0 + q4)
              have hw4 : (wr.drewN 0).drewN q4 = wr.drewN (0 + q4) := drewN_drewN wr 0 q4
              rw [hw4]
              clear h0 hw4
              generalize 0 + q4 = p4 at *
              by_cases hx0 : x = 0
              · have hlf : lag fs m a1 k = false := by rw [HLG.out, hx0]; rfl
                have HNX2 : Hid (Mach w0 (wr.drewN p4) fs so sc mb bf cf fb (midB fs m a1 (k + 1)) (lessG (midB fs m a1 (k + 1)) G) vg vp c ∧ Calm Z w (wr.drewN p4)) := by
                  rw [midB_keep fs m a1 k hlf]
                  exact ⟨HX.out.1.drewN p4, HX.out.2.drewN p4⟩
                have HLN : Hid (lagTo fs m a1 (k + 1) = lagTo fs m a1 k) := by show _ = _; rw [HLS.out, hlf, Bool.or_false]
                subst hx0
                clear hlf h1 HNX HX p0
                generalize wr.drewN p4 = w5 at *
                go_wp2
                go_roundw
                case rel => exact ⟨k + 1, by omega, by go_num, by rw [HLN.out], HNX2⟩
                case measure => simp [intOf]; omega
              · have hbe : (x == 0) = false := by simpa using hx0
                have hbn : (x != 0) = true := by simpa using hx0
                go_wp2_with fail
                refine h1.mono ?_
                rintro e w5 ⟨rfl, q5, rfl⟩
                clear h1 HNX
                by_cases hxm : x < m
                · have hlf : lag fs m a1 k = true := by rw [HLG.out, hbe]; simpa using hxm
                  have HWS := Lib.hid (waste_at ((HX.out.1.drewN p4).drewN q5) HL.out HB.out hkx 1 (by rw [midB_at]; exact hasEmpty_no HEM.out HR2.out.1 hkx) (by rw [midB_at]; exact HR2.out.2.1 k hkx))
                  have HCA : Hid (Calm Z w ((wr.drewN p4).drewN q5)) := (HX.out.2.drewN p4).drewN q5
                  have HLN : Hid (lagTo fs m a1 (k + 1) = true) := by show _ = _; rw [HLS.out, hlf, Bool.or_true]
                  have HMB := Lib.hid (midB_bump fs m a1 k hlf)
                  have HMA := Lib.hid (midB_at fs m a1 k)
                  clear HX hlf p0
                  generalize (wr.drewN p4).drewN q5 = w6 at *
                  go_wp2_with fail
                  refine HWS.out.mono ?_
                  rintro e w7 ⟨rfl, hm7, hc7⟩
                  have HNX2 : Hid (Mach w0 w7 fs so sc mb bf cf fb (midB fs m a1 (k + 1)) (lessG (midB fs m a1 (k + 1)) G) vg vp c ∧ Calm Z w w7) := by
                    rw [HMA.out] at hm7
                    rw [HMB.out]
                    exact ⟨hm7, HCA.out.trans hc7⟩
                  clear hm7 hc7 HWS HCA
                  go_wp2
                  go_roundw
                  case rel => exact ⟨k + 1, by omega, by go_num, by rw [HLN.out]; rfl, HNX2⟩
                  case measure => simp [intOf]; omega
                · have hlf : lag fs m a1 k = false := by rw [HLG.out, hbe]; simpa using hxm
                  have HNX2 : Hid (Mach w0 ((wr.drewN p4).drewN q5) fs so sc mb bf cf fb (midB fs m a1 (k + 1)) (lessG (midB fs m a1 (k + 1)) G) vg vp c ∧ Calm Z w ((wr.drewN p4).drewN q5)) := by
                    rw [midB_keep fs m a1 k hlf]
                    exact ⟨(HX.out.1.drewN p4).drewN q5, (HX.out.2.drewN p4).drewN q5⟩
                  have HLN : Hid (lagTo fs m a1 (k + 1) = lagTo fs m a1 k) := by show _ = _; rw [HLS.out, hlf, Bool.or_false]
                  clear hlf HX p0
                  generalize (wr.drewN p4).drewN q5 = w6 at *
                  go_wp2
                  go_roundw
                  case rel => exact ⟨k + 1, by omega, by go_num, by rw [HLN.out], HNX2⟩
                  case measure => simp [intOf]; omega
            · obtain rfl : n = k := by omega
              obtain ⟨w4, rfl⟩ : ∃ w4 : World, w4 = wr := ⟨_, rfl⟩
              have hla : lagTo fs m a1 n = anyLag fs a1 := by rw [HN.out, HMV.out]; rfl
              cases hal : anyLag fs a1 with
              | true =>
                rw [hal] at hla
                rw [hla]
                have HALL := Lib.hid hal
                have hfin : ∀ j, j < fs.length → midB fs m a1 n j = bumpV fs m a1 j := fun j hj => by unfold midB; rw [if_pos (by have := HN.out; omega)]
                have HNX3 : Hid (Mach w0 w4 fs so sc mb bf cf fb (bumpV fs m a1) (lessG (bumpV fs m a1) G) vg vp c ∧ Calm Z w w4 ∧ Within fs (bumpV fs m a1) ∧ (∀ k, k < fs.length → G ≤ bumpV fs m a1 k) ∧ ∀ r a', Align fs (bumpV fs m a1) r a' → Align fs a r a') := by
                  refine ⟨HX.out.1.congr fun j hj => ⟨hfin j hj, by unfold lessG; rw [hfin j hj]⟩, HX.out.2, bump_within HEM.out HR2.out.1 m, fun j hj => ?_, fun r a' hr => HR2.out.2.2 r a' (.step a1 a' r HEM.out HALL.out (by rw [← HMV.out]; exact hr))⟩
                  have := HR2.out.2.1 j hj
                  unfold bumpV
                  split <;> omega
                have HRM : Hid (remTo fs (bumpV fs m a1) fs.length < gk) := by
                  show _ < _
                  rw [HGK.out, HMV.out]
                  exact rem_bump HEM.out HR2.out.1 HALL.out
                clear hla hal hfin HX
                go_wp2
                go_roundg (remTo fs (bumpV fs m a1) fs.length)
                case measure => exact HRM.out
                case rel => exact ⟨bumpV fs m a1, rfl, HNX3⟩
              | false =>
                rw [hal] at hla
                rw [hla]
                have HALL := Lib.hid hal
                have hfin : ∀ j, j < fs.length → midB fs m a1 n j = a1 j := fun j hj => by
                  unfold midB
                  rw [if_pos (by have := HN.out; omega)]
                  unfold bumpV
                  have h1 := List.any_eq_false.1 HALL.out j (List.mem_range.2 hj)
                  rw [← HMV.out] at h1
                  rw [if_neg h1]
                have HF : Hid (RetAlign w0 w Z fs so sc mb bf cf fb a G vg vp c (.returned (.tuple #[.int .i64 m, .bool true])) w4) :=
                  ⟨some m, a1, rfl, HR2.out.2.2 _ _ (by rw [HMV.out]; exact .same a1 HEM.out HALL.out), HX.out.1.congr fun j hj => ⟨hfin j hj, by unfold lessG; rw [hfin j hj]⟩, HX.out.2⟩
                clear hla hal hfin HX
                go_wp2
                go_ret2
                exact HF.out
end Go.Proofs.YtcpjpmijfjdifaaGreatDoor
