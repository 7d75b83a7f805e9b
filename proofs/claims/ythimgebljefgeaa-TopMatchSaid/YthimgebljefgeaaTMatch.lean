/-
  The walk of TopMatch. Written by gen_rem.py. Own text.
-/
import Derived.Test.YthimgebljefgeaaEx
import Derived.Test.YthimgebljefgeaaRowsB
import Derived.Test.YthimgebljefgeaaConcatI
import Derived.Test.YthimgebljefgeaaMCut
namespace Go.Proofs.Ythimgebljefgeaa
open Go.RowKit
set_option linter.unusedVariables false
set_option maxRecDepth 100000 in
set_option maxHeartbeats 16000000 in
theorem tmatch_any (many kinds : Int) (F : List Ft) (oF : Option Addr) (cF : Nat) (w : World) (hF : Flat w 3 encFt oF F) (hFm : F.length ≤ maxLen) (hFc : F.length ≤ cF) (hF0 : oF = none → cF = 0) (vS : Value) (S : List Int) (hS : IsSlice w 1 encInt vS S) :
    Calls Try.prog 3 #[.int .i64 many, .int .i64 kinds, .slice oF F.length cF, vS] w (RetTrue w) := by
  have HRUN : Hid (∀ (fs : List (List Pt)) oa so sc ca w1, Args w1 fs oa so sc → fs.length ≤ maxLen → Below w.heap.size w w1 → Calls Try.prog 4 #[.slice oa fs.length ca, .slice oF F.length cF] w1 (RetAll fs F (runErr fs F) w1)) := fun fs oa so sc ca w1 hA hm hb => run_any fs F oa so sc ca oF cF w1 hA hm (hF.below hb) hFm hFc hF0 _ rfl
  have HS := Lib.hid hS
  obtain ⟨M, hM⟩ : ∃ M, M = F.length := ⟨_, rfl⟩
  rw [← hM] at HRUN ⊢
  have HFM := Lib.hid hM
  clear hF hFm hFc hF0 hS hM
  have hmb := mcV_bd (x := many) (lo := 1) (hi := 40) (by decide)
  have hkb := mcV_bd (x := kinds) (lo := 1) (hi := 4) (by decide)
  have HW1 : Hid (∀ W, Calls Try.prog 6 #[.int .i64 many, .int .i64 1, .int .i64 40] W fun e w' => e = .returned (.int .i64 (mcV many 1 40)) ∧ W = w') := fun W => mcut_any many 1 40 W (by decide) (by decide) (by decide)
  have HW2 : Hid (∀ W, Calls Try.prog 6 #[.int .i64 kinds, .int .i64 1, .int .i64 4] W fun e w' => e = .returned (.int .i64 (mcV kinds 1 4)) ∧ W = w') := fun W => mcut_any kinds 1 4 W (by decide) (by decide) (by decide)
  generalize mcV many 1 40 = mi at *
  generalize mcV kinds 1 4 = ki at *
  obtain ⟨m, rfl⟩ : ∃ m : Nat, mi = m := ⟨mi.toNat, by omega⟩
  obtain ⟨K, rfl⟩ : ∃ K : Nat, ki = K := ⟨ki.toNat, by omega⟩
  have hm1 : 1 ≤ m := by omega
  have hm2 : m ≤ 40 := by omega
  have hk1 : 1 ≤ K := by omega
  have hk2 : K ≤ 4 := by omega
  clear hmb hkb
  obtain ⟨s, hs⟩ : ∃ s : Nat → Nat → Bool, s = fun (k c : Nat) => S.contains ((c : Int) * (K : Int) + (k : Int)) := ⟨_, rfl⟩
  have HSS : Hid (∀ k c : Nat, S.contains ((c : Int) * (K : Int) + (k : Int)) = s k c) := fun k c => by rw [hs]
  clear hs
  go_enter Try.func3, Try.ntmps3
  go_wp2_with fail
  refine (ex_run w).mono ?_
  rintro e w2 h
  obtain ⟨cX, ogX, cgX, opX, cpX, o0X, c0X, o1X, c1X, o2X, c2X, o3X, c3X, ZX, rfl, h1, h2, -, hb⟩ := ex_ret h
  have HB := Lib.hid ((exW_below w).trans (hb.mono (exW_below w).size))
  have HG := Lib.hid (h1.isSlice (fun _ => rfl))
  have HM := Lib.hid (h2.isSlice (fun _ => rfl))
  have HSZ : Hid (∀ o, (w2.alloc o).heap.size = w2.heap.size + 1) := fun o => World.size_alloc _ _
  clear h hb h1 h2
  go_wp2_with fail
  refine (equal_any _ _ [2] _ (HG.out.below (balloc (balloc (Below.refl _ _) _) _)) (lit1 (HSZ.out _) 2)).mono ?_
  rintro e w5 ⟨rfl, hb5⟩
  have HB5 : Hid (Below w2.heap.size w2 w5) := (balloc (balloc (Below.refl _ w2) _) _).trans (hb5.mono (by simp; omega))
  have r2 : w5.cell? ⟨w2.heap.size, 2, none⟩ = some (.slice o0X 1 c0X) := by
    refine keepCell hb5 ?_
    refine keepCell (balloc (Below.refl _ _) _) ?_
    rw [cell_of_row _ w2.heap.size 2 _ _ (0, 0) (heap_alloc_new w2 _)]
    rfl
  clear hb5 HSZ
  go_wp2_with fail
  refine (equal_any _ _ [1] _ (HM.out.below (HB5.out.trans ((balloc (Below.refl _ _) _).mono HB5.out.size))) (lit1 rfl 1)).mono ?_
  rintro e w1 ⟨rfl, hb6⟩
  have HB1 : Hid (Below w.heap.size w w1) := HB.out.trans ((HB5.out.trans (((balloc (Below.refl _ _) _).trans (hb6.mono (balloc (Below.refl _ _) _).size)).mono HB5.out.size)).mono HB.out.size)
  clear hb6 HB HB5 HG HM r2
  go_wp2_with fail
  refine (HW1.out _).mono ?_
  rintro e w1a ⟨rfl, rfl⟩
  go_wp2_with fail
  refine (HW2.out _).mono ?_
  rintro e w1b ⟨rfl, rfl⟩
  clear HW1 HW2
  go_wp2
  go_loopw [11, 63] (fun v i wr => ∃ k : Nat, k ≤ K ∧ i = .int .i64 k ∧ Hid (∃ rv, RB w1 wr v rv (numFs k m s))) (fun _ i _ => K - (intOf i).toNat)
  case atStart => exact ⟨0, by omega, rfl, [], RB.start w1⟩
  case round =>
    obtain ⟨k, hk, rfl, HX⟩ := hrel
    obtain ⟨w2, rfl⟩ : ∃ w2 : World, w2 = wr := ⟨_, rfl⟩
    obtain ⟨v, rfl⟩ : ∃ v : Value, v = u11 := ⟨_, rfl⟩
    obtain ⟨rv, hrb⟩ := HX.out
    have HRB := Lib.hid hrb
    clear HX hrb
    by_cases hlt : k < K
    · have kd : (k : Int) < (K : Int) := by omega
      have HVL : Hid (rv.length = k) := by have h := HRB.out.r.len; rw [numFs_len] at h; exact h
      go_wp2
      go_loopw [14, 67] (fun u j wr => ∃ c : Nat, c ≤ m ∧ j = .int .i64 c ∧ Hid (RU w1 wr v rv (numFs k m s) u (numRow c (s k)))) (fun _ j _ => m - (intOf j).toNat)
      case atStart => exact ⟨0, by omega, rfl, RU.start HRB.out⟩
      case round =>
        clear HRB
        obtain ⟨c, hc, rfl, HRU⟩ := hrel
        obtain ⟨w4, rfl⟩ : ∃ w4 : World, w4 = wr := ⟨_, rfl⟩
        obtain ⟨u, rfl⟩ : ∃ u : Value, u = u14 := ⟨_, rfl⟩
        by_cases hct : c < m
        · have cd : (c : Int) < (m : Int) := by omega
          have x1 : IntKind.i64.wrap ((c : Int) + 1) = (c : Int) + 1 := IntWalk.i64_in _ (by omega)
          obtain ⟨ck, hck⟩ : ∃ ck : Int, ck = (c : Int) * (K : Int) := ⟨_, rfl⟩
          have hck1 : 0 ≤ ck ∧ ck ≤ 160 := by
            have h1 : c * K ≤ 40 * 4 := Nat.mul_le_mul (by omega) (by omega)
            have h2 : ck = ((c * K : Nat) : Int) := by rw [hck, Int.natCast_mul]
            omega
          have x2 : IntKind.i64.wrap ((c : Int) * (K : Int)) = ck := by rw [← hck]; exact IntWalk.i64_in _ (by omega)
          have x3 : IntKind.i64.wrap (ck + (k : Int)) = ck + (k : Int) := IntWalk.i64_in _ (by omega)
          have HCT := Lib.hid (contains_is vS S (ck + (k : Int)) w4 (HS.out.below (HB1.out.trans (HRU.out.bel.mono HB1.out.size))) (s k c) (by rw [hck]; exact HSS.out k c))
          have HCK := Lib.hid hck
          clear hck
          have HNR : Hid (numRow (c + 1) (s k) = numRow c (s k) ++ [⟨(c : Int) + 1, s k c⟩]) := numRow_succ c (s k)
          have HNL : Hid ((numRow c (s k)).length ≤ 40) := by show _ ≤ _; rw [numRow_len]; omega
          obtain ⟨b, hb⟩ : ∃ b, b = s k c := ⟨_, rfl⟩
          rw [← hb] at HCT HNR
          obtain ⟨l0, hl0⟩ : ∃ l0, l0 = numRow c (s k) := ⟨_, rfl⟩
          rw [← hl0] at HRU HNR HNL
          have HU6 := Lib.hid (HRU.out.below (balloc (Below.refl _ w4) (.cells #[.int .i64 ((c : Int) + 1), .bool b] 31)))
          have HNEW : Hid (∀ (j : Nat) (u : Value), (encPt ⟨(c : Int) + 1, b⟩)[j]? = some u → (w4.alloc (.cells #[.int .i64 ((c : Int) + 1), .bool b] 31)).cell? ((⟨w4.heap.size, 0, none⟩ : Addr).add j) = some u) := World.news_of_block (cs := #[.int .i64 ((c : Int) + 1), .bool b]) (t := 31) (fr := (0, 0)) (heap_alloc_new w4 _)
          clear hb hl0 HRU
          go_wp2_with fail
          refine HCT.out.mono ?_
          rintro e w5 ⟨rfl, rfl⟩
          clear HCT
          go_wp2_with (at_builtin; refine wpList_appAt rfl (.tmp 70) (.tmp 81) 32 rfl elemPtT Try.underlying32 w1.heap.size u l0 encPt rfl HU6.out.r.ou ⟨(c : Int) + 1, b⟩ ⟨w4.heap.size, 0, none⟩ 1 rfl rfl HNEW.out ?c1 ?c2 ?c3 ?c4 ?_)
          case c1 => simp [encPt, Value.oneCell']
          case c2 => have := HNL.out; omega
          case c3 => have := HNL.out; unfold maxLen; omega
          case c4 => exact HU6.out.bel.size
          intro u7 w7 hown7 hg7 hat7
          obtain ⟨l7, hl7⟩ : ∃ l7, l7 = l0 ++ [(⟨(c : Int) + 1, b⟩ : Pt)] := ⟨_, rfl⟩
          rw [← hl7] at hown7 HNR
          have HU7 : Hid (RU w1 w7 v rv (numFs k m s) u7 (numRow (c + 1) (s k))) := by
            show RU _ _ _ _ _ _ _
            rw [HNR.out]
            exact HU6.out.addU hown7 hg7 (by simpa using hat7)
          clear hown7 hg7 hat7 hl7 HU6 HNEW
          go_wp2
          go_roundw
          case rel => exact ⟨c + 1, by omega, by go_num, HU7⟩
          case measure => simp [intOf]; omega
        · obtain rfl : m = c := by omega
          obtain ⟨ou, lu, cu, rfl⟩ : ∃ ou lu cu, u = .slice ou lu cu := by
            obtain ⟨ou, cu, e, -, -⟩ := HRU.out.r.ou.flat (fun _ => rfl)
            exact ⟨ou, _, cu, e⟩
          have HU6 := Lib.hid (HRU.out.below (balloc (Below.refl _ w4) (.cells #[.slice ou lu cu] 32)))
          have HNEW : Hid (∀ (j : Nat) (u : Value), (encV (.slice ou lu cu))[j]? = some u → (w4.alloc (.cells #[.slice ou lu cu] 32)).cell? ((⟨w4.heap.size, 0, none⟩ : Addr).add j) = some u) := World.news_of_block (cs := #[.slice ou lu cu]) (t := 32) (fr := (0, 0)) (heap_alloc_new w4 _)
          clear HRU
          go_wp2_with (at_builtin; refine wpList_appAt rfl (.tmp 84) (.tmp 86) 33 rfl elemRowP Try.underlying33 w1.heap.size v rv encV rfl HU6.out.r.b.op (.slice ou lu cu) ⟨w4.heap.size, 0, none⟩ 1 rfl rfl HNEW.out ?c1 ?c2 ?c3 ?c4 ?_)
          case c1 => simp [encV, Value.oneCell']
          case c2 => have := HVL.out; omega
          case c3 => have := HVL.out; unfold maxLen; omega
          case c4 => exact HU6.out.bel.size
          intro v9 w9 hown9 hg9 hat9
          have HNX : Hid (∃ rv, RB w1 w9 v9 rv (numFs (k + 1) m s)) := by
            refine ⟨rv ++ [.slice ou lu cu], ?_⟩
            rw [numFs_succ]
            exact HU6.out.addV hown9 hg9 (by simpa using hat9)
          clear hown9 hg9 hat9 HU6 HNEW
          go_wp2
          go_roundw
          case rel => exact ⟨k + 1, by omega, by go_num, HNX⟩
          case measure => simp [intOf]; omega
    · obtain rfl : K = k := by omega
      have hok : FeedOk (numFs K m s) := numFs_ok s hk1 (by omega) (by omega)
      obtain ⟨oL, cL, so, sc, hvL, hargs⟩ := HRB.out.r.args
      rw [numFs_len] at hvL
      subst hvL
      have HA := Lib.hid hargs
      have HB2 : Hid (Below w.heap.size w w2) := HB1.out.trans (HRB.out.bel.mono HB1.out.size)
      have hrun := HRUN.out _ oL so sc cL w2 hargs (by rw [numFs_len]; unfold maxLen; omega) HB2.out
      rw [numFs_len] at hrun
      have HR := Lib.hid hrun
      have HE0 : Hid (M = 0 → runErr (numFs K m s) F = 0) := fun h => by
        have h2 : F = [] := List.eq_nil_of_length_eq_zero (by have := HFM.out; omega)
        rw [h2]
        exact runErr_none hok
      obtain ⟨E, hE⟩ : ∃ E, E = runErr (numFs K m s) F := ⟨_, rfl⟩
      rw [← hE] at HR HE0
      have HEE := Lib.hid hE
      have HOK := Lib.hid hok
      clear hargs hrun hok hE HRUN HRB HB1
      go_wp2_with fail
      refine HR.out.mono ?_
      rintro e w3 h
      clear HR
      rcases h with ⟨h0, rfl, hb⟩ | ⟨h0, h⟩
      · have hbe : (E != 0) = true := by simpa using h0
        have HF : Hid (Below w.heap.size w w3) := HB2.out.trans (hb.mono HB2.out.size)
        have hM1 : 0 < M := by
          rcases Nat.eq_zero_or_pos M with e | e
          · exact absurd (HE0.out e) h0
          · exact e
        have hM2 : (0 : Int) < (M : Int) := by omega
        clear hb h0 HE0
        unfold zeroRep
        go_wp2
        go_ret
        exact ⟨rfl, HF.out.alloc HF.out.size _⟩
      · subst h0
        obtain ⟨c, a, g, p, og, cg, op, cpq, o0, n0, c0, o1, c1, o2, c2, o3, c3, rv2, Z, rfl, hr, hrep, hn0, w0', -, -, -, hZ, hb⟩ := run_ret h
        rw [numFs_len]
        have hinv := (hr.inv (RunInv.zero _)).1
        have hcap := hr.cap HOK.out (runErr_ok HEE.out.symm).2.len
        obtain ⟨ms, hms⟩ : ∃ ms, ms = finX (numFs K m s) g a 0 := ⟨_, rfl⟩
        rw [← hms] at w0' hn0
        have HMS : Hid (IsMissing (numFs K m s) g ms) := by rw [hms]; exact missing_is _ _
        have HMR := Lib.hid (miss_rng hk1 HMS.out)
        have HBA := Lib.hid (both_all hk1 (by omega) (by omega) hr HMS.out)
        obtain ⟨N, hN⟩ : ∃ N, N = g.length := ⟨_, rfl⟩
        rw [← hN] at hrep ⊢
        subst hn0
        have HOG := Lib.hid hrep.og
        have HO0 := Lib.hid w0'
        have HNG := Lib.hid hN
        have HB23 := Lib.hid hb
        have HB3 : Hid (Below w.heap.size w w3) := HB2.out.trans (hb.mono HB2.out.size)
        have HREP := Lib.hid hrep
        have HPL := Lib.hid hinv.len
        have HOKI := Lib.hid hinv.ok
        have hnc : N ≤ 4608 := by have := hinv.cyc; omega
        have hml : ms.length ≤ m := HMR.out.2
        clear hr hrep w0' hms hN hb hZ hcap h hinv HEE HE0
        have HCELL : Hid (∀ i v, (repC og N cg op cpq o0 ms.length c0 c K o1 c1 o2 c2 o3 c3)[i]? = some v → (w3.alloc (.cells (repC og N cg op cpq o0 ms.length c0 c K o1 c1 o2 c2 o3 c3) 26)).cell? ⟨w3.heap.size, i, none⟩ = some v) := fun i v hv => by
          rw [cell_of_row _ w3.heap.size i _ _ (0, 0) (heap_alloc_new w3 _)]
          exact hv
        have HSZ : Hid ((w3.alloc (.cells (repC og N cg op cpq o0 ms.length c0 c K o1 c1 o2 c2 o3 c3) 26)).heap.size = w3.heap.size + 1) := World.size_alloc _ _
        have HB34 : Hid (Below w3.heap.size w3 (w3.alloc (.cells (repC og N cg op cpq o0 ms.length c0 c K o1 c1 o2 c2 o3 c3) 26))) := balloc (Below.refl _ _) _
        obtain ⟨n0, hn0⟩ : ∃ n0, n0 = ms.length := ⟨_, rfl⟩
        rw [← hn0] at HCELL HSZ HB34 HO0 hml ⊢
        have HN0 := Lib.hid hn0
        clear hn0
        go_wp2
        generalize w3.alloc (.cells (repC og N cg op cpq o0 n0 c0 c K o1 c1 o2 c2 o3 c3) 26) = w4 at *
        generalize hrb : w3.heap.size = rb at *
        have HRBE := Lib.hid hrb
        clear hrb
        go_loopw [104] (fun i wr => ∃ j : Nat, j ≤ N ∧ i = .int .i64 j ∧ Hid (∃ q, wr = w4.drewN q)) (fun i _ => N - (intOf i).toNat)
        case atStart => exact ⟨0, by omega, rfl, 0, rfl⟩
        case round =>
          obtain ⟨i, hi, rfl, HQ⟩ := hrel
          obtain ⟨w5, rfl⟩ : ∃ w5 : World, w5 = wr := ⟨_, rfl⟩
          have HB45 : Hid (Below w4.heap.size w4 w5) := by obtain ⟨q, hq⟩ := HQ.out; rw [hq]; exact bdrewN (Below.refl _ _) q
          have HB35 : Hid (Below w3.heap.size w3 w5) := by
            have h := HB34.out.trans (HB45.out.mono (by have := HSZ.out; omega))
            rw [← HRBE.out] at h
            exact h
          by_cases hit : i < N
          · have hig : i < g.length := by have := HNG.out; omega
            have hip : i < p.length := by have := HPL.out; have := HNG.out; omega
            have hir : i < rv2.length := by have := HREP.out.len; omega
            have HOK1 := Lib.hid (HOKI.out i hig hip)
            have HUL : Hid (p[i].length = K) := by have := HOK1.out.len; rw [numFs_len] at this; exact this
            obtain ⟨bp, offp, cpp, e1, cv⟩ := tm_ownV (HREP.out.op.below HB35.out) hir
            simp only [Value.slice.injEq] at e1
            obtain ⟨rfl, -, rfl⟩ := e1
            obtain ⟨ou, cu, e2, -, hfu⟩ := (HREP.out.row i hir hip).flat (fun _ => rfl)
            rw [e2, HUL.out] at cv
            have HFU : Hid (Flat w3 1 encInt ou p[i]) := hfu
            obtain ⟨u, hu⟩ : ∃ u, u = p[i] := ⟨_, rfl⟩
            obtain ⟨gm, hgm⟩ : ∃ gm, gm = g[i] := ⟨_, rfl⟩
            have HGI : Hid (g[i] = gm) := hgm.symm
            obtain ⟨bg, offg, rfl, cg0⟩ := own_cellI (HREP.out.og.below HB35.out) hig
            rw [← hgm] at HOK1 cg0
            rw [← hu] at HOK1 HUL HFU
            have kd : (i : Int) < (N : Int) := by omega
            have k0 : (0 : Int) ≤ (i : Int) := by omega
            clear hu hgm e2 hfu cg0
            go_wp2
            clear cv
            go_loopw [111] (fun j wr => ∃ k : Nat, k ≤ K ∧ j = .int .i64 k ∧ Hid (∃ q, wr = w4.drewN q)) (fun j _ => K - (intOf j).toNat)
            case atStart => exact ⟨0, by omega, rfl, HQ.out⟩
            case round =>
              clear HQ HB45 HB35
              obtain ⟨k, hk, rfl, HQ⟩ := hrel
              have HB45 : Hid (Below w4.heap.size w4 wr) := by obtain ⟨q, hq⟩ := HQ.out; rw [hq]; exact bdrewN (Below.refl _ _) q
              have HB35 : Hid (Below w3.heap.size w3 wr) := by
                have h := HB34.out.trans (HB45.out.mono (by have := HSZ.out; omega))
                rw [← HRBE.out] at h
                exact h
              have r0 : wr.cell? ⟨rb, 0, none⟩ = some (.slice (some ⟨bg, offg, none⟩) N cg) := keepCell HB45.out (HCELL.out 0 _ rfl)
              have g0 : wr.cell? ⟨bg, offg + i, none⟩ = some (.int .i64 gm) := by
                obtain ⟨b', o', e', h'⟩ := own_cellI (HREP.out.og.below HB35.out) hig
                simp only [Option.some.injEq, Addr.mk.injEq, and_true] at e'
                obtain ⟨rfl, rfl⟩ := e'
                rw [HGI.out] at h'
                exact h'
              by_cases hkt : k < K
              · have hku : k < u.length := by have := HUL.out; omega
                obtain ⟨q, hq, -, hq2, hq3, hq4⟩ := HOK1.out.at' k hku
                rw [numFs_ln _ _ _ _ hkt] at hq2
                have hqa : ptAt (numFs K m s) k q = ⟨(q : Int) + 1, s k q⟩ := numFs_at K m s k q hkt hq2
                have hq3' : s k q = false := by unfold sp at hq3; rw [hqa] at hq3; exact hq3
                have hq4' : (q : Int) + 1 = gm := by unfold cp at hq4; rw [hqa] at hq4; rcases hq4 with h | h <;> (simp only at h; omega)
                obtain ⟨bu, offu, rfl, u0⟩ := (HFU.out.below HB35.out).int hku
                rw [hq] at u0
                have hkn : k < (numFs K m s).length := by rw [numFs_len]; exact hkt
                obtain ⟨ba, off, rfl, p0⟩ := ((HA.out.below HB23.out).below HB35.out).hd k hkn
                have hqn : q < (numFs K m s)[k].length := by rw [numFs_get, numRow_len]; exact hq2
                obtain ⟨bo, oo, hso, i0, i1⟩ := (((HA.out.below HB23.out).below HB35.out).row k hkn).pt hqn
                rw [← ptAt_get _ k q hkn hqn, hqa] at i0 i1
                rw [hso, numFs_ln _ _ _ _ hkt] at p0
                dsimp only at i0 i1
                rw [hq3'] at i1
                have hgg : (gm != gm) = false := by simp
                rw [hq4'] at i0
                have jd : (k : Int) < (K : Int) := by omega
                have j0 : (0 : Int) ≤ (k : Int) := by omega
                have q1 : ¬ (q : Int) < 0 := by omega
                have q2 : ¬ (q : Int) ≥ (m : Int) := by omega
                have q2' : q < m := hq2
                have q3 : (q : Int) < (m : Int) := by omega
                have q0 : (0 : Int) ≤ (q : Int) := by omega
                clear hq hq3 hq4 hqa hq3' hq4' hqn hso
                go_wp2
                go_quiet (fail)
                have HNX : Hid (∃ q, wr.drewN nq = w4.drewN q) := by obtain ⟨q, hq⟩ := HQ.out; exact ⟨q + nq, by rw [hq, drewN_drewN]⟩
                go_wp2
                go_roundw
                case rel => exact ⟨k + 1, by omega, by go_num, HNX⟩
                case measure => simp [intOf]; omega
              · obtain rfl : K = k := by omega
                clear r0 g0
                go_wp2
                go_roundw
                case rel => exact ⟨i + 1, by omega, by go_num, HQ⟩
                case measure => simp [intOf]; omega
          · obtain rfl : N = i := by omega
            clear HOKI
            have HB35 : Hid (Below w3.heap.size w3 w5) := by
              have h := HB34.out.trans (HB45.out.mono (by have := HSZ.out; omega))
              rw [← HRBE.out] at h
              exact h
            have HBW5 : Hid (Below w.heap.size w w5) := HB3.out.trans (HB35.out.mono HB3.out.size)
            have HC5 : Hid (∀ i v, (repC og N cg op cpq o0 n0 c0 c K o1 c1 o2 c2 o3 c3)[i]? = some v → w5.cell? ⟨rb, i, none⟩ = some v) := fun i v hv => keepCell HB45.out (HCELL.out i v hv)
            have HOG5 := Lib.hid (HOG.out.below HB35.out)
            have HOM5 := Lib.hid (HO0.out.below HB35.out)
            have hrl : rb < w5.heap.size := by have := HB45.out.size; have := HSZ.out; omega
            go_wp2
            go_loopw [12, 152] (fun v i wr => ∃ k : Nat, k ≤ K ∧ i = .int .i64 k ∧ Hid (∃ rv, RB w5 wr v rv (plainFs k ms))) (fun _ i _ => K - (intOf i).toNat)
            case atStart => exact ⟨0, by omega, rfl, [], RB.start w5⟩
            case round =>
              obtain ⟨k, hk, rfl, HX⟩ := hrel
              obtain ⟨w6, rfl⟩ : ∃ w6 : World, w6 = wr := ⟨_, rfl⟩
              obtain ⟨v, rfl⟩ : ∃ v : Value, v = u12 := ⟨_, rfl⟩
              obtain ⟨rv, hrb⟩ := HX.out
              have HRB := Lib.hid hrb
              clear HX hrb
              by_cases hlt : k < K
              · have kd : (k : Int) < (K : Int) := by omega
                have HVL : Hid (rv.length = k) := by have h := HRB.out.r.len; rw [plainFs_len] at h; exact h
                have r2 : w6.cell? ⟨rb, 2, none⟩ = some (.slice o0 n0 c0) := keepCell HRB.out.bel (HC5.out 2 _ rfl)
                go_wp2
                clear r2
                go_loopw [22, 157] (fun u j wr => ∃ q : Nat, q ≤ n0 ∧ j = .int .i64 q ∧ Hid (RU w5 wr v rv (plainFs k ms) u (plainRow (ms.take q)))) (fun _ j _ => n0 - (intOf j).toNat)
                case atStart => exact ⟨0, by omega, rfl, RU.start HRB.out⟩
                case round =>
                  clear HRB
                  obtain ⟨q, hq, rfl, HRU⟩ := hrel
                  obtain ⟨w7, rfl⟩ : ∃ w7 : World, w7 = wr := ⟨_, rfl⟩
                  obtain ⟨u, rfl⟩ : ∃ u : Value, u = u22 := ⟨_, rfl⟩
                  by_cases hqt : q < n0
                  · have hqm : q < ms.length := by have := HN0.out; omega
                    obtain ⟨bm, fm, rfl, m0⟩ := own_cellI (HOM5.out.below HRU.out.bel) hqm
                    have HNR : Hid (plainRow (ms.take (q + 1)) = plainRow (ms.take q) ++ [⟨ms[q], false⟩]) := plainRow_take ms q hqm
                    have HNL : Hid ((plainRow (ms.take q)).length ≤ 64) := by show _ ≤ _; rw [plainRow_len, List.length_take]; omega
                    obtain ⟨x, hx⟩ : ∃ x, x = ms[q] := ⟨_, rfl⟩
                    rw [← hx] at m0 HNR
                    obtain ⟨l0, hl0⟩ : ∃ l0, l0 = plainRow (ms.take q) := ⟨_, rfl⟩
                    rw [← hl0] at HRU HNR HNL
                    have qd : (q : Int) < (n0 : Int) := by omega
                    have q0 : (0 : Int) ≤ (q : Int) := by omega
                    have HU6 := Lib.hid (HRU.out.below (balloc (Below.refl _ w7) (.cells #[.int .i64 x, .bool false] 31)))
                    have HNEW : Hid (∀ (j : Nat) (u : Value), (encPt ⟨x, false⟩)[j]? = some u → (w7.alloc (.cells #[.int .i64 x, .bool false] 31)).cell? ((⟨w7.heap.size, 0, none⟩ : Addr).add j) = some u) := World.news_of_block (cs := #[.int .i64 x, .bool false]) (t := 31) (fr := (0, 0)) (heap_alloc_new w7 _)
                    clear hx hl0 HRU
                    go_wp2_with (at_builtin; refine wpList_appAt rfl (.tmp 161) (.tmp 164) 32 rfl elemPtT Try.underlying32 w5.heap.size u l0 encPt rfl HU6.out.r.ou ⟨x, false⟩ ⟨w7.heap.size, 0, none⟩ 1 rfl rfl HNEW.out ?c1 ?c2 ?c3 ?c4 ?_)
                    case c1 => simp [encPt, Value.oneCell']
                    case c2 => have := HNL.out; omega
                    case c3 => have := HNL.out; unfold maxLen; omega
                    case c4 => exact HU6.out.bel.size
                    intro u8 w8 hown8 hg8 hat8
                    obtain ⟨l8, hl8⟩ : ∃ l8, l8 = l0 ++ [(⟨x, false⟩ : Pt)] := ⟨_, rfl⟩
                    rw [← hl8] at hown8 HNR
                    have HU8 : Hid (RU w5 w8 v rv (plainFs k ms) u8 (plainRow (ms.take (q + 1)))) := by
                      show RU _ _ _ _ _ _ _
                      rw [HNR.out]
                      exact HU6.out.addU hown8 hg8 (by simpa using hat8)
                    clear hown8 hg8 hat8 hl8 HU6 HNEW m0
                    go_wp2
                    go_roundw
                    case rel => exact ⟨q + 1, by omega, by go_num, HU8⟩
                    case measure => simp [intOf]; omega
                  · obtain rfl : n0 = q := by omega
                    obtain ⟨ou, lu, cu, rfl⟩ : ∃ ou lu cu, u = .slice ou lu cu := by
                      obtain ⟨ou, cu, e, -, -⟩ := HRU.out.r.ou.flat (fun _ => rfl)
                      exact ⟨ou, _, cu, e⟩
                    have HTK : Hid (ms.take n0 = ms) := by show _ = _; rw [HN0.out]; exact List.take_length
                    have HU6 : Hid (RU w5 (w7.alloc (.cells #[.slice ou lu cu] 32)) v rv (plainFs k ms) (.slice ou lu cu) (plainRow ms)) := by
                      have h := HRU.out.below (balloc (Below.refl _ w7) (.cells #[.slice ou lu cu] 32))
                      rw [HTK.out] at h
                      exact h
                    have HNEW : Hid (∀ (j : Nat) (u : Value), (encV (.slice ou lu cu))[j]? = some u → (w7.alloc (.cells #[.slice ou lu cu] 32)).cell? ((⟨w7.heap.size, 0, none⟩ : Addr).add j) = some u) := World.news_of_block (cs := #[.slice ou lu cu]) (t := 32) (fr := (0, 0)) (heap_alloc_new w7 _)
                    clear HRU HTK
                    go_wp2_with (at_builtin; refine wpList_appAt rfl (.tmp 167) (.tmp 169) 33 rfl elemRowP Try.underlying33 w5.heap.size v rv encV rfl HU6.out.r.b.op (.slice ou lu cu) ⟨w7.heap.size, 0, none⟩ 1 rfl rfl HNEW.out ?c1 ?c2 ?c3 ?c4 ?_)
                    case c1 => simp [encV, Value.oneCell']
                    case c2 => have := HVL.out; omega
                    case c3 => have := HVL.out; unfold maxLen; omega
                    case c4 => exact HU6.out.bel.size
                    intro v9 w9 hown9 hg9 hat9
                    have HNX : Hid (∃ rv, RB w5 w9 v9 rv (plainFs (k + 1) ms)) := by
                      refine ⟨rv ++ [.slice ou lu cu], ?_⟩
                      rw [plainFs_succ]
                      exact HU6.out.addV hown9 hg9 (by simpa using hat9)
                    clear hown9 hg9 hat9 HU6 HNEW
                    go_wp2
                    go_roundw
                    case rel => exact ⟨k + 1, by omega, by go_num, HNX⟩
                    case measure => simp [intOf]; omega
              · obtain rfl : K = k := by omega
                have hok2 : FeedOk (plainFs K ms) := plainFs_ok hk1 (by omega) HMS.out.1 (fun x hx => by have := HMR.out.1 x hx; omega) (by have := HMR.out.2; omega)
                obtain ⟨oL2, cL2, so2, sc2, hvL, hargs⟩ := HRB.out.r.args
                rw [plainFs_len] at hvL
                subst hvL
                have hrun := run_any (plainFs K ms) [] oL2 so2 sc2 cL2 none 0 w6 hargs (by rw [plainFs_len]; unfold maxLen; omega) (fun i hi => by simp at hi) (by unfold maxLen; simp) (Nat.le_refl _) (fun _ => rfl) 0 (runErr_none hok2)
                rw [plainFs_len] at hrun
                have HR : Hid (Calls Try.prog 4 #[.slice oL2 K cL2, .slice none 0 0] w6 (RetAll (plainFs K ms) [] 0 w6)) := hrun
                have HB56 := Lib.hid HRB.out.bel
                clear hargs hrun hok2 HRB
                go_wp2_with fail
                refine HR.out.mono ?_
                rintro e w7 h
                clear HR
                rcases h with ⟨h0, _⟩ | ⟨_, h⟩
                · exact absurd rfl h0
                · obtain ⟨d, b, gg, pp, og2, cg2, op2, cpq2, o02, n02, c02, o12, c12, o22, c22, o32, c32, rv3, Z2, rfl, hr2, hrep2, hn02, -, -, -, -, -, hb2⟩ := run_ret h
                  rw [plainFs_len]
                  obtain ⟨rfl, hf0⟩ := second_run hk1 (by omega) HMS.out.1 (fun x hx => by have := HMR.out.1 x hx; omega) (by have := HMR.out.2; omega) hr2
                  rw [hf0] at hn02
                  subst hn02
                  have HOG7 := Lib.hid hrep2.og
                  have HB57 : Hid (Below w5.heap.size w5 w7) := HB56.out.trans (hb2.mono HB56.out.size)
                  rw [← HN0.out] at HOG7 ⊢
                  clear h hb2 hr2 hrep2 hf0 HB56
                  have HCELL2 : Hid (∀ i v, (repC og2 n0 cg2 op2 cpq2 o02 0 c02 d K o12 c12 o22 c22 o32 c32)[i]? = some v → (w7.alloc (.cells (repC og2 n0 cg2 op2 cpq2 o02 0 c02 d K o12 c12 o22 c22 o32 c32) 26)).cell? ⟨w7.heap.size, i, none⟩ = some v) := fun i v hv => by
                    rw [cell_of_row _ w7.heap.size i _ _ (0, 0) (heap_alloc_new w7 _)]
                    exact hv
                  have HSZ2 : Hid ((w7.alloc (.cells (repC og2 n0 cg2 op2 cpq2 o02 0 c02 d K o12 c12 o22 c22 o32 c32) 26)).heap.size = w7.heap.size + 1) := World.size_alloc _ _
                  have HB78 : Hid (Below w7.heap.size w7 (w7.alloc (.cells (repC og2 n0 cg2 op2 cpq2 o02 0 c02 d K o12 c12 o22 c22 o32 c32) 26))) := balloc (Below.refl _ _) _
                  have hr7 : rb < w7.heap.size := by have := HB57.out.size; omega
                  have r0 : w7.cell? ⟨rb, 0, none⟩ = some (.slice og N cg) := keepCell HB57.out (HC5.out 0 _ rfl)
                  have HLEN : Hid ((srt (g ++ gg)).length = m) := by show _ = _; rw [HBA.out, upTo_len]
                  have HLEN2 : Hid ((g ++ gg).length = m) := by have h := HLEN.out; rw [srt_len] at h; exact h
                  have HLX : Hid (g.length ≤ 100000 ∧ gg.length ≤ 100000) := by
                    have h := HLEN2.out
                    rw [List.length_append] at h
                    exact ⟨by omega, by omega⟩
                  have HG7 := Lib.hid ((HOG5.out.below HB57.out).isSlice (fun _ => rfl))
                  have HM7 := Lib.hid (HOG7.out.isSlice (fun _ => rfl))
                  go_wp2_with fail
                  refine (concat2 _ _ g gg _ HSZ2.out (HG7.out.below HB78.out) (HM7.out.below HB78.out) HLX.out.1 HLX.out.2).mono ?_
                  rintro e w9 ⟨v, rfl, hown9, hb9⟩
                  obtain ⟨oA, cA, hvA, -, -⟩ := hown9.flat (fun _ => rfl)
                  rw [HLEN2.out] at hvA
                  subst hvA
                  have HZ8 : Hid (w7.heap.size + 2 ≤ w9.heap.size ∧ ∀ j, (Value.slice oA m cA).ownBlock = some j → w7.heap.size + 2 ≤ j) := by
                    have h1 := hb9.size
                    have h2 := HSZ2.out
                    rw [World.size_alloc] at h1
                    refine ⟨by omega, fun j hj => ?_⟩
                    have h3 := (hown9.lt hj).1
                    rw [World.size_alloc] at h3
                    omega
                  have HB79 : Hid (Below w7.heap.size w7 w9) := HB78.out.trans (((balloc (Below.refl _ _) _).trans (hb9.mono (balloc (Below.refl _ _) _).size)).mono HB78.out.size)
                  have HC9 : Hid (∀ i v, (repC og2 n0 cg2 op2 cpq2 o02 0 c02 d K o12 c12 o22 c22 o32 c32)[i]? = some v → w9.cell? ⟨w7.heap.size, i, none⟩ = some v) := fun i v hv => keepCell hb9 (keepCell (balloc (Below.refl _ _) _) (HCELL2.out i v hv))
                  have HSO := Lib.hid (sort_any _ (.slice oA m cA) (g ++ gg) w9 hown9 (by rw [HLEN2.out]; omega))
                  clear hown9 hb9 r0 HCELL2 HSZ2
                  go_wp2_with fail
                  refine HSO.out.mono ?_
                  rintro e w10 ⟨rfl, hown10, hg10⟩
                  rw [HBA.out] at hown10
                  have HOW := Lib.hid hown10
                  have HR10 : Hid (∀ i v, (repC og2 n0 cg2 op2 cpq2 o02 0 c02 d K o12 c12 o22 c22 o32 c32)[i]? = some v → w10.cell? ⟨w7.heap.size, i, none⟩ = some v) := fun i v hv => cell_below (Z := w7.heap.size + 2) (HC9.out i v hv) hg10 HZ8.out.2 (by show w7.heap.size < _; omega)
                  have HR5 : Hid (∀ i v, (repC og N cg op cpq o0 n0 c0 c K o1 c1 o2 c2 o3 c3)[i]? = some v → w10.cell? ⟨rb, i, none⟩ = some v) := fun i v hv => cell_below (Z := w7.heap.size + 2) (keepCell HB79.out (keepCell HB57.out (HC5.out i v hv))) hg10 HZ8.out.2 (by show rb < _; omega)
                  have HBF : Hid (Below w.heap.size w w10) := by
                    have h1 := HBW5.out.trans ((HB57.out.trans (HB79.out.mono HB57.out.size)).mono HBW5.out.size)
                    refine h1.grown hg10 h1.size fun j hj => ?_
                    have h2 := HZ8.out.2 j hj
                    have h3 := HBW5.out.size
                    have h4 := HB57.out.size
                    omega
                  have HEQ : Hid (IsSlice w10 1 encInt (.slice og2 n0 cg2) gg ∧ IsSlice w10 1 encInt (.slice o0 n0 c0) gg) := by
                    refine ⟨(own_below (Z := w7.heap.size + 2) (HOG7.out.below HB79.out) hg10 HZ8.out.2 fun j hj => by have := (HOG7.out.lt hj).2; omega).isSlice (fun _ => rfl), (own_below (Z := w7.heap.size + 2) ((HOM5.out.below HB57.out).below HB79.out) hg10 HZ8.out.2 fun j hj => by have h1 := (HOM5.out.lt hj).2; have h2 := HB57.out.size; omega).isSlice (fun _ => rfl)⟩
                  clear hown10 hg10 HSO HC9 HB79 HZ8
                  have hmm : ((m : Int) != (m : Int)) = false := by simp
                  have hNN : ((N : Int) != (N : Int)) = false := by simp
                  have q2 : w10.cell? ⟨w7.heap.size, 2, none⟩ = some (.slice o02 0 c02) := HR10.out 2 _ rfl
                  have q0 : w10.cell? ⟨w7.heap.size, 0, none⟩ = some (.slice og2 n0 cg2) := HR10.out 0 _ rfl
                  have p0 : w10.cell? ⟨rb, 0, none⟩ = some (.slice og N cg) := HR5.out 0 _ rfl
                  have p1 : w10.cell? ⟨rb, 1, none⟩ = some (.slice op N cpq) := HR5.out 1 _ rfl
                  have p2 : w10.cell? ⟨rb, 2, none⟩ = some (.slice o0 n0 c0) := HR5.out 2 _ rfl
                  have HOW2 : Hid (Own w10 (w7.heap.size + 2) 3 1 encInt (.slice oA m cA) (upTo m)) := HOW.out.rebase (by rw [World.size_alloc, World.size_alloc]; omega)
                  clear HOW HR10 HR5
                  go_wp2_with fail
                  refine (equal_any _ _ gg w10 HEQ.out.1 HEQ.out.2).mono ?_
                  rintro e w11 ⟨rfl, hb11⟩
                  have HLAST : Hid (Own w11 (w7.heap.size + 2) 3 1 encInt (.slice oA m cA) (upTo m) ∧ Below w.heap.size w w11) := ⟨HOW2.out.below hb11, HBF.out.trans (hb11.mono HBF.out.size)⟩
                  clear hb11 HOW2
                  go_wp2
                  clear q2 q0 p0 p1 p2
                  go_loopw [212] (fun i wr => ∃ q : Nat, q ≤ m ∧ i = .int .i64 q ∧ Hid (Own wr (w7.heap.size + 2) 3 1 encInt (.slice oA m cA) (upTo m) ∧ Below w.heap.size w wr)) (fun i _ => m - (intOf i).toNat)
                  case atStart => exact ⟨0, by omega, rfl, HLAST.out⟩
                  case round =>
                    clear HLAST
                    obtain ⟨q, hq, rfl, HL⟩ := hrel
                    by_cases hqt : q < m
                    · obtain ⟨bm, fm, rfl, m0⟩ := own_cellI HL.out.1 (i := q) (by rw [upTo_len]; exact hqt)
                      rw [upTo_get] at m0
                      have hqq : ((q : Int) + 1 != (q : Int) + 1) = false := by simp
                      have x1 : IntKind.i64.wrap ((q : Int) + 1) = (q : Int) + 1 := IntWalk.i64_in _ (by omega)
                      have qd : (q : Int) < (m : Int) := by omega
                      have q0 : (0 : Int) ≤ (q : Int) := by omega
                      go_wp2
                      go_roundw
                      case rel => exact ⟨q + 1, by omega, by go_num, HL⟩
                      case measure => simp [intOf]; omega
                    · obtain rfl : m = q := by omega
                      go_wp2
                      go_ret
                      exact ⟨rfl, HL.out.2⟩

end Go.Proofs.Ythimgebljefgeaa
