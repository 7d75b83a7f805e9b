/-
  The walk of CollateCopiesMatch. Own text.
-/
import Derived.Test.YtemldminpndemaaColl4
namespace Go.Proofs.Ytemldminpndemaa
open Go.RowKit
set_option linter.unusedVariables false
/-- A row that the call owns: element i. -/
theorem own_at {w : World} {Z : Nat} {v : Value} {xs : List Int} (h : Own w Z 3 1 encInt v xs) {i : Nat} (hi : i < xs.length) : ∃ b off cap, v = .slice (some ⟨b, off, none⟩) xs.length cap ∧ w.cell? ⟨b, off + i, none⟩ = some (.int .i64 xs[i]) := by
  obtain ⟨oa, cap, e, _, hf⟩ := h.flat (fun _ => rfl)
  obtain ⟨b, off, rfl, hc⟩ := hf.int hi
  exact ⟨b, off, cap, e, hc⟩
theorem ownV_at {w : World} {Z : Nat} {v : Value} {xs : List Value} (h : Own w Z 25 1 encV v xs) {i : Nat} (hi : i < xs.length) : ∃ b off cap, v = .slice (some ⟨b, off, none⟩) xs.length cap ∧ w.cell? ⟨b, off + i, none⟩ = some xs[i] := by
  obtain ⟨oa, cap, e, _, hf⟩ := h.flat (fun _ => rfl)
  obtain ⟨u, hu, b, off, rfl, hc⟩ := hf i hi 0 (by omega)
  simp [encV] at hu
  subst hu
  exact ⟨b, off, cap, e, by simpa using hc⟩
theorem Rep.below {w w' : World} {Z : Nat} {vg vp : Value} {rv : List Value} {g : List Int} {p : List (List Int)} (h : Rep w Z vg vp rv g p) (hb : Below w.heap.size w w') : Rep w' Z vg vp rv g p :=
  ⟨h.og.below hb, h.op.below hb, h.len, fun i h1 h2 => (h.row i h1 h2).below hb, h.gp, h.gr⟩
/-- The table of the last parts. -/
structure CS (w3 wr : World) (b n : Nat) (t : Nat → Int) : Prop where
  tab : FTab (Value.int .i64) wr b n t
  bel : Below w3.heap.size w3 wr
  sz : b < wr.heap.size
def midL (l : Nat → Int) (u : List Int) (k : Nat) : Nat → Int := fun j => if j < k then u.getD j 0 + 1 else l j
theorem midL_zero (l : Nat → Int) (u : List Int) : midL l u 0 = l := by funext j; simp [midL]
theorem midL_at (l : Nat → Int) (u : List Int) (k : Nat) : midL l u k k = l k := by simp [midL]
theorem CS.next {w3 wr : World} {b n : Nat} {l : Nat → Int} {u : List Int} {k : Nat} {o : Obj} (h : CS w3 wr b n (midL l u k)) (hb : w3.heap.size ≤ b) (hk : k < n) (x : Int) (hx : u.getD k 0 = x) (q : Nat) : CS w3 (((wr.alloc o).drewN q).setCell ⟨b, k, none⟩ (.int .i64 (x + 1))) b n (midL l u (k + 1)) := by
  refine ⟨(((h.tab.alloc h.sz o).drewN q).set hk (x + 1)).congr fun i hi => ?_, ?_, ?_⟩
  · unfold midL
    by_cases e : i = k
    · subst e
      rw [if_pos rfl, if_pos (Nat.lt_succ_self i), hx]
    · rw [if_neg e]
      by_cases e2 : i < k
      · rw [if_pos e2, if_pos (by omega)]
      · rw [if_neg e2, if_neg (by omega)]
  · exact (bdrewN (h.bel.alloc h.bel.size o) q).setCell (p := ⟨b, k, none⟩) hb _
  · have := h.sz
    have : (((wr.alloc o).drewN q).setCell ⟨b, k, none⟩ (.int .i64 (x + 1))).heap.size = wr.heap.size + 1 := by rw [World.size_setCell]; exact World.size_alloc _ _
    omega
theorem midL_all {w3 wr : World} {b n : Nat} {p : List (List Int)} {i : Nat} {u : List Int} (h : CS w3 wr b n (midL (lastAt p i) u n)) (hu : p.getD i [] = u) : CS w3 wr b n (lastAt p (i + 1)) :=
  ⟨h.tab.congr fun j hj => by
    unfold midL
    rw [if_pos hj]
    show u.getD j 0 + 1 = (p.getD i []).getD j 0 + 1
    rw [hu], h.bel, h.sz⟩
set_option maxRecDepth 100000 in
set_option maxHeartbeats 8000000 in
theorem copies_any (fs : List (List Pt)) (F : List Ft) (oa : Option Addr) (so : Nat → Option Addr) (sc : Nat → Nat) (ca : Nat) (oF : Option Addr) (cF : Nat) (w : World) (hA : Args w fs oa so sc) (hm : fs.length ≤ maxLen) (hF : Flat w 3 encFt oF F) (hFm : F.length ≤ maxLen) (hFc : F.length ≤ cF) (hF0 : oF = none → cF = 0) :
    Calls Try.prog 4 #[.slice oa fs.length ca, .slice oF F.length cF] w (RetTrue w) := by
  obtain ⟨E, hE⟩ : ∃ E, runErr fs F = E := ⟨_, rfl⟩
  have HC : Hid (Calls Try.prog 15 #[] w (RetTrue w)) := collates4_any w
  have HR : Hid (∀ w1, Below w.heap.size w w1 → Calls Try.prog 9 #[.slice oa fs.length ca, .slice oF F.length cF] w1 (RetAll fs F E w1)) := fun w1 hb => run_any fs F oa so sc ca oF cF w1 (hA.below hb) hm (hF.below hb) hFm hFc hF0 E hE
  have HA := Lib.hid hA
  have HE := Lib.hid hE
  obtain ⟨n, hn⟩ : ∃ n, n = fs.length := ⟨_, rfl⟩
  obtain ⟨M, hM⟩ : ∃ M, M = F.length := ⟨_, rfl⟩
  have HN := Lib.hid hn
  rw [← hn, ← hM] at HR ⊢
  clear hA hF hFm hFc hF0 hE hm hn hM
  go_enter Try.func4, Try.ntmps4
  go_wp2_with fail
  refine HC.out.mono ?_
  rintro e w1 ⟨rfl, hb1⟩
  have HB1 := Lib.hid hb1
  clear hb1 HC
  go_wp2_with fail
  refine (HR.out w1 HB1.out).mono ?_
  rintro e w2 h
  rcases h with ⟨h0, rfl, hb⟩ | ⟨h0, h⟩
  · have hbe : (E != 0) = true := by simpa using h0
    have HF : Hid (Below w.heap.size w w2) := HB1.out.trans (hb.mono HB1.out.size)
    clear hb h0 HR HE
    unfold zeroRep
    go_wp2
    go_ret
    exact ⟨rfl, HF.out.alloc HF.out.size _⟩
  · subst h0
    have HOK := runErr_ok HE.out
    have hone := HOK.1.one
    have hfew := HOK.1.few
    have h8 : n ≤ 8 := by have := HN.out; omega
    have h1 : 1 ≤ n := by have := HN.out; omega
    obtain ⟨c, a, g, p, og, cg, op, cpq, o0, n0, c0, o1, c1, o2, c2, o3, c3, rv, Z, rfl, hr, hrep, -, -, -, -, -, hZ, hb⟩ := run_ret h
    have hinv := (hr.inv (RunInv.zero fs)).1
    have hcap := hr.cap HOK.1 HOK.2.len
    have hgl : g.length ≤ 4608 := Nat.le_trans hinv.cyc hcap
    have hpl := hinv.len
    have hrl := hrep.len
    have HINV := Lib.hid hinv
    have HB2 : Hid (Below w.heap.size w w2) := HB1.out.trans (hb.mono HB1.out.size)
    obtain ⟨N, hN⟩ : ∃ N, N = g.length := ⟨_, rfl⟩
    rw [← hN] at hrep hgl ⊢
    rw [← HN.out]
    have HREP := Lib.hid hrep
    have HNG := Lib.hid hN
    have HPL := Lib.hid hpl
    have HRL := Lib.hid hrl
    clear hb HR HE HB1 hr hrep hinv hcap hZ hN hpl hrl hone hfew h
    have HOKK := Lib.hid HOK
    clear HOK
    have mk := run_makeArr elemIntT Try.underlying25 (.int .i64 0) rfl n (by omega) (by omega)
    have hnn : ((N : Int) != (N : Int)) = false := by simp
    go_wp2
    obtain ⟨w3, hw3⟩ : ∃ w3, w3 = w2.alloc (.cells (repC og N cg op cpq o0 n0 c0 c n o1 c1 o2 c2 o3 c3) 28) := ⟨_, rfl⟩
    have hs3 : w3.heap.size = w2.heap.size + 1 := by rw [hw3]; exact World.size_alloc _ _
    have HS3 := Lib.hid hs3
    have HB3 : Hid (Below w2.heap.size w2 w3) := by rw [hw3]; exact balloc (Below.refl _ _) _
    have HR0 : Hid (w3.cell? ⟨w2.heap.size, 0, none⟩ = some (.slice og N cg)) := by
      show _ = _
      rw [hw3, cell_of_row _ w2.heap.size 0 _ _ (0, 0) (heap_alloc_new w2 _)]
      rfl
    have HST : Hid (CS w3 (w3.alloc (.cells (madeArr (.int .i64 0) n) 3)) (w2.heap.size + 1) n (lastAt p 0)) := by
      refine ⟨?_, balloc (Below.refl _ _) _, ?_⟩
      · have h := FTab.made (Value.int .i64) w3 n 0 3
        rw [hs3] at h
        exact h
      · rw [World.size_alloc, hs3]; omega
    have HW3 := Lib.hid hw3
    clear hs3 hw3 mk
    generalize hrb : w2.heap.size = rb at *
    have HRB := Lib.hid hrb
    clear hrb
    go_loopw [41] (fun i wr => ∃ k : Nat, k ≤ N ∧ i = .int .i64 k ∧ Hid (CS w3 wr (rb + 1) n (lastAt p k))) (fun i _ => N - (intOf i).toNat)
    case atStart => exact ⟨0, by omega, rfl, by have h := HST.out; rw [HW3.out] at h; rw [HW3.out]; exact h⟩
    case round =>
      clear HST HW3
      obtain ⟨i, hi, rfl, HX⟩ := hrel
      obtain ⟨w5, rfl⟩ : ∃ w5 : World, w5 = wr := ⟨_, rfl⟩
      have HB25 : Hid (Below w2.heap.size w2 w5) := by
        have h := HB3.out.trans (HX.out.bel.mono (by have := HB3.out.size; have := HRB.out; omega))
        rw [← HRB.out] at h
        exact h
      by_cases hlt : i < N
      · have hig : i < g.length := by have := HNG.out; omega
        have hip : i < p.length := by have := HPL.out; omega
        have hir : i < rv.length := by have := HRL.out; omega
        have HOK1 := Lib.hid (HINV.out.ok i hig hip)
        have HUL : Hid (p[i].length = n) := by have := HOK1.out.len; have := HN.out; show _ = _; omega
        obtain ⟨bp, offp, cpp, e1, cv⟩ := ownV_at (HREP.out.op.below HB25.out) hir
        simp only [Value.slice.injEq] at e1
        obtain ⟨rfl, -, rfl⟩ := e1
        obtain ⟨ou, cu, e2, -, hfu⟩ := (HREP.out.row i hir hip).flat (fun _ => rfl)
        rw [e2, HUL.out] at cv
        have HFU : Hid (Flat w2 1 encInt ou p[i]) := hfu
        obtain ⟨u, hu⟩ : ∃ u, u = p[i] := ⟨_, rfl⟩
        have HPU : Hid (p.getD i [] = u) := by rw [hu, List.getD_eq_getElem?_getD, List.getElem?_eq_getElem hip]; rfl
        obtain ⟨m, hm⟩ : ∃ m, m = g[i] := ⟨_, rfl⟩
        obtain ⟨bg, offg, cgg, e3, cg0⟩ := own_at (HREP.out.og.below HB25.out) hig
        simp only [Value.slice.injEq] at e3
        obtain ⟨rfl, -, rfl⟩ := e3
        have HGI : Hid (g[i] = m) := hm.symm
        rw [← hm] at HOK1 cg0
        rw [← hu] at HOK1 HUL HFU
        have HCG : Hid (w5.cell? ⟨bg, offg + i, none⟩ = some (.int .i64 m)) := cg0
        have r0 : w5.cell? ⟨rb, 0, none⟩ = some (.slice (some ⟨bg, offg, none⟩) N cg) := keepCell HX.out.bel HR0.out
        have HR5 := Lib.hid r0
        have hnn2 : ((n : Int) != (n : Int)) = false := by simp
        have kd : (i : Int) < (N : Int) := by omega
        have k0 : (0 : Int) ≤ (i : Int) := by omega
        clear hu hm e2 hfu cg0
        have HX5 : Hid (CS w5 w5 (rb + 1) n (midL (lastAt p i) u 0)) := by rw [midL_zero]; exact ⟨HX.out.tab, Below.refl _ _, HX.out.sz⟩
        go_wp2
        clear cv r0
        go_loopw [10, 53] (fun v j wr => ∃ k : Nat, k ≤ n ∧ j = .int .i64 k ∧ v = .int .i64 (mostTo fs (fun k => (u.getD k 0).toNat) k) ∧ Hid (CS w3 wr (rb + 1) n (midL (lastAt p i) u k))) (fun _ j _ => n - (intOf j).toNat)
        case atStart => exact ⟨0, by omega, rfl, rfl, by rw [midL_zero]; exact HX.out⟩
        case round =>
          clear HX HX5
          obtain ⟨k, hk, rfl, rfl, HY⟩ := hrel
          have HB5 : Hid (Below w2.heap.size w2 wr) := by
            have h := HB3.out.trans (HY.out.bel.mono (by have := HB3.out.size; have := HRB.out; omega))
            rw [← HRB.out] at h
            exact h
          have r0 : wr.cell? ⟨rb, 0, none⟩ = some (.slice (some ⟨bg, offg, none⟩) N cg) := keepCell HY.out.bel HR0.out
          have g0 : wr.cell? ⟨bg, offg + i, none⟩ = some (.int .i64 m) := by
            obtain ⟨b', o', c', e', h'⟩ := own_at (HREP.out.og.below HB5.out) hig
            simp only [Value.slice.injEq, Option.some.injEq, Addr.mk.injEq, and_true] at e'
            obtain ⟨⟨rfl, rfl⟩, -, -⟩ := e'
            rw [HGI.out] at h'
            exact h'
          by_cases hkt : k < n
          · have hku : k < u.length := by have := HUL.out; omega
            have hkf : k < fs.length := by have := HN.out; omega
            obtain ⟨q, hq, hq1, hq2, hq3, hq4⟩ := HOK1.out.at' k hku
            obtain ⟨bu, offu, rfl, u0⟩ := (HFU.out.below HB5.out).int hku
            rw [hq] at u0
            have HUK : Hid (u.getD k 0 = (q : Int)) := by rw [List.getD_eq_getElem?_getD, List.getElem?_eq_getElem hku, ← hq]; rfl
            have t0 : wr.cell? ⟨rb + 1, k, none⟩ = some (.int .i64 (lastAt p i k)) := by
              have h := HY.out.tab.at' k hkt
              rw [midL_at] at h
              exact h
            have tf := HY.out.tab.fz
            have tl := HY.out.sz
            obtain ⟨ba, off, rfl, p0⟩ := (HA.out.below (HB2.out.trans (HB5.out.mono HB2.out.size))).hd k hkf
            have hql : q < fs[k].length := by rw [← ln_get fs k hkf]; exact hq2
            obtain ⟨bo, oo, hso, i0, i1⟩ := ((HA.out.row k hkf).below (HB2.out.trans (HB5.out.mono HB2.out.size))).pt hql
            rw [← ptAt_get fs k q hkf hql] at i0 i1
            have hq3' : (ptAt fs k q).spoil = false := hq3
            have hq4' : (ptAt fs k q).copy = 0 ∨ (ptAt fs k q).copy = m := hq4
            have hms : mostTo fs (fun k => (u.getD k 0).toNat) (k + 1) = max (mostTo fs (fun k => (u.getD k 0).toNat) k) (ptAt fs k q).copy := by
              rw [mostTo_succ]
              show max _ (cp fs k (u.getD k 0).toNat) = _
              rw [HUK.out]
              rfl
            have HMS := Lib.hid hms
            rw [hso] at p0
            rw [hq3'] at i1
            obtain ⟨x, hx⟩ : ∃ x, x = (ptAt fs k q).copy := ⟨_, rfl⟩
            rw [← hx] at i0 hq4' HMS
            obtain ⟨L, hL⟩ : ∃ L, L = ln fs k := ⟨_, rfl⟩
            rw [← hL] at p0 hq2
            have hl3 := HOKK.out.1.low k
            rw [← hL] at hl3
            obtain ⟨l0, hl0⟩ : ∃ l0, l0 = lastAt p i k := ⟨_, rfl⟩
            rw [← hl0] at t0 hq1
            obtain ⟨mo, hmo⟩ : ∃ mo, mo = mostTo fs (fun k => (u.getD k 0).toNat) k := ⟨_, rfl⟩
            rw [← hmo] at HMS ⊢
            have jd : (k : Int) < (n : Int) := by omega
            have j0 : (0 : Int) ≤ (k : Int) := by omega
            have q1 : ¬ (q : Int) < l0 := by omega
            have q2 : ¬ (q : Int) ≥ (L : Int) := by omega
            have q3 : (q : Int) < (L : Int) := by omega
            have q0 : (0 : Int) ≤ (q : Int) := by omega
            have rlt : rb < wr.heap.size := by omega
            have glt : bg < wr.heap.size := cell?_lt g0
            have HNX : Hid (∀ nq, CS w3 (((wr.alloc (.cells #[.int .i64 x, .bool false] 41)).drewN nq).setCell ⟨rb + 1, k, none⟩ (.int .i64 ((q : Int) + 1))) (rb + 1) n (midL (lastAt p i) u (k + 1))) := fun nq => HY.out.next (by have := HS3.out; omega) hkt q HUK.out nq
            clear hq hq2 hq3 hq4 hq3' hx hL hl0 hmo hms hso hql hq1
            by_cases hx0 : x = 0
            · subst hx0
              have HMS2 : Hid (mostTo fs (fun k => (u.getD k 0).toNat) (k + 1) = max mo 0) := HMS.out
              go_wp2
              go_quiet (fail)
              go_wp2
              go_roundw
              case rel => exact ⟨k + 1, by omega, by go_num, (by have h := HMS2.out; first | (rw [h]; done) | (rw [h]; congr 1; done) | (rw [h]; congr 1; split <;> omega)), HNX.out _⟩
              case measure => simp [intOf]; omega
            · have hxm : x = m := by omega
              subst hxm
              have x1 : (x != 0) = true := by simpa using hx0
              have x2 : (x != x) = false := by simp
              go_wp2
              go_quiet (fail)
              go_wp2
              go_roundw
              case rel => exact ⟨k + 1, by omega, by go_num, (by have h := HMS.out; first | (rw [h]; done) | (rw [h]; congr 1; done) | (rw [h]; congr 1; split <;> omega)), HNX.out _⟩
              case measure => simp [intOf]; omega
          · obtain rfl : n = k := by omega
            have hme : mostTo fs (fun k => (u.getD k 0).toNat) n = m := by
              have h := HOK1.out.most
              rw [HN.out]
              exact h.symm
            rw [hme]
            have hmm : (m != m) = false := by simp
            have HNX : Hid (CS w3 wr (rb + 1) n (lastAt p (i + 1))) := midL_all HY.out HPU.out
            clear hme HY
            go_wp2
            go_roundw
            case rel => exact ⟨i + 1, by omega, by go_num, HNX⟩
            case measure => simp [intOf]; omega
      · obtain rfl : N = i := by omega
        have HBF : Hid (Below w.heap.size w w5) := HB2.out.trans (HB25.out.mono HB2.out.size)
        clear HX
        go_wp2
        go_ret
        exact ⟨rfl, HBF.out⟩
end Go.Proofs.Ytemldminpndemaa
