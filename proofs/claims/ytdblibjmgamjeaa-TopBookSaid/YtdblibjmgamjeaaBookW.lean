/-
  The walk of TopBook. Printed by gen_book.py. Own text.
-/
import Derived.Test.YtdblibjmgamjeaaBookR
import Derived.Test.YtdblibjmgamjeaaIplM
import Derived.Test.YtdblibjmgamjeaaBFold
import Derived.Test.YtdblibjmgamjeaaBRd
import Derived.Test.YtdblibjmgamjeaaBinds
import Derived.Test.YtdblibjmgamjeaaDots
import Derived.Test.YtdblibjmgamjeaaEq8
import Derived.Deep.RegionHeld3
import Derived.Deep.DrawnRows
namespace Go.Proofs.Ytdblibjmgamjeaa
open Go.RowKit
set_option linter.unusedVariables false
set_option maxRecDepth 100000 in
set_option maxHeartbeats 16000000 in
theorem topBook_any (l : Lay) (os : Option Addr) (cs : Nat) (pg : Int) (nest : Bool) (w : World) (hs : StpAt w l os cs) :
    Calls Try.prog 4 #[layV l os l.sc.steps.length cs, .int .i64 pg, .bool nest] w fun e w' => e = .returned (.bool true) ∧ Below w.heap.size w w' := by
  obtain ⟨L, hL⟩ : ∃ L, L = smallV l := ⟨_, rfl⟩
  have hsc : L.sc = l.sc := by rw [hL]; rfl
  have hLw : 1 ≤ L.w ∧ L.w ≤ 5 := by rw [hL]; exact mcV_bd (by decide)
  have hLh : 1 ≤ L.h ∧ L.h ≤ 5 := by rw [hL]; exact mcV_bd (by decide)
  obtain ⟨m, hm⟩ : ∃ m, m = l.sc.steps.length := ⟨_, rfl⟩
  have HML : Hid (L.sc.steps.length = m) := by show _ = _; rw [hsc]; exact hm.symm
  have HST : Hid (∀ W, Below w.heap.size w W → StpAt W L os cs) := fun W hb => by
    have h := hs.below hb
    exact ⟨by rw [hsc]; exact h.f, by rw [hsc]; exact h.m, by rw [hsc]; exact h.c⟩
  have HBI : Hid (∀ W, Calls Try.prog 5 #[] W fun e w' => e = .returned (.bool true) ∧ Below W.heap.size W w') := binds_any
  have HSM : Hid (∀ W, Calls Try.prog 6 #[layV l os m cs] W fun e w' => e = .returned (.agg #[.int .i64 L.sc.cols, .int .i64 L.sc.rows, .slice os m cs, .int .i64 L.w, .int .i64 L.h, .int .i64 L.head, .int .i64 L.fore, .int .i64 L.spine, .int .i64 L.margin, .int .i64 L.creep, .int .i64 L.style]) ∧ Below W.heap.size W w') := fun W => by
    have h := small_any l os m cs W
    rw [← hL] at h
    exact h
  rw [← hm]
  obtain ⟨W1, hW1⟩ : ∃ W1, W1 = w.alloc (layO l os m cs) := ⟨_, rfl⟩
  have hb1 : Below w.heap.size w W1 := by rw [hW1]; exact balloc (Below.refl _ w) _
  have hz1 : W1.heap.size = w.heap.size + 1 := by rw [hW1]; simp
  have ht1 : FTab (fun v : Value => v) W1 w.heap.size 11 (layF l os m cs) := by rw [hW1]; exact layF_new w l os m cs _
  have HW1 : Hid (w.alloc (layO l os m cs) = W1) := hW1.symm
  unfold layO at HW1
  have HB1 := Lib.hid hb1
  have HZ1 := Lib.hid hz1
  have HT1 := Lib.hid ht1
  clear hW1 hb1 hz1 ht1 hs hm hsc hL
  go_enter Try.func4, Try.ntmps4
  go_upto_region 1 with fail
  rw [HW1.out]
  clear HW1
  go_wp2_with fail
  refine (HBI.out W1).mono ?_
  rintro e w2 ⟨rfl, hb2⟩
  have ht2 := HT1.out.below hb2 (by rw [HZ1.out]; omega)
  have c0 : w2.cell? ⟨w.heap.size, 0, none⟩ = some (.int .i64 l.sc.cols) := ht2.at' 0 (by omega)
  have c1 : w2.cell? ⟨w.heap.size, 1, none⟩ = some (.int .i64 l.sc.rows) := ht2.at' 1 (by omega)
  have c2 : w2.cell? ⟨w.heap.size, 2, none⟩ = some (.slice os m cs) := ht2.at' 2 (by omega)
  have c3 : w2.cell? ⟨w.heap.size, 3, none⟩ = some (.int .i64 l.w) := ht2.at' 3 (by omega)
  have c4 : w2.cell? ⟨w.heap.size, 4, none⟩ = some (.int .i64 l.h) := ht2.at' 4 (by omega)
  have c5 : w2.cell? ⟨w.heap.size, 5, none⟩ = some (.int .i64 l.head) := ht2.at' 5 (by omega)
  have c6 : w2.cell? ⟨w.heap.size, 6, none⟩ = some (.int .i64 l.fore) := ht2.at' 6 (by omega)
  have c7 : w2.cell? ⟨w.heap.size, 7, none⟩ = some (.int .i64 l.spine) := ht2.at' 7 (by omega)
  have c8 : w2.cell? ⟨w.heap.size, 8, none⟩ = some (.int .i64 l.margin) := ht2.at' 8 (by omega)
  have c9 : w2.cell? ⟨w.heap.size, 9, none⟩ = some (.int .i64 l.creep) := ht2.at' 9 (by omega)
  have c10 : w2.cell? ⟨w.heap.size, 10, none⟩ = some (.int .i64 l.style) := ht2.at' 10 (by omega)
  have HSM2 := Lib.hid (HSM.out w2)
  have HB2 := Lib.hid (bthen HB1.out hb2)
  have HT2 := Lib.hid ht2
  have HZ2 : Hid (w.heap.size < w2.heap.size) := by have := hb2.size; have := HZ1.out; show _ < _; omega
  clear hb2 ht2 HSM HBI
  go_wp2_with fail
  refine HSM2.out.mono ?_
  rintro e w3 ⟨rfl, hb3⟩
  clear c0 c1 c2 c3 c4 c5 c6 c7 c8 c9 c10
  have ht3 := HT2.out.below hb3 HZ2.out
  have c0 : w3.cell? ⟨w.heap.size, 0, none⟩ = some (.int .i64 l.sc.cols) := ht3.at' 0 (by omega)
  have c1 : w3.cell? ⟨w.heap.size, 1, none⟩ = some (.int .i64 l.sc.rows) := ht3.at' 1 (by omega)
  have c2 : w3.cell? ⟨w.heap.size, 2, none⟩ = some (.slice os m cs) := ht3.at' 2 (by omega)
  have c3 : w3.cell? ⟨w.heap.size, 3, none⟩ = some (.int .i64 l.w) := ht3.at' 3 (by omega)
  have c4 : w3.cell? ⟨w.heap.size, 4, none⟩ = some (.int .i64 l.h) := ht3.at' 4 (by omega)
  have c5 : w3.cell? ⟨w.heap.size, 5, none⟩ = some (.int .i64 l.head) := ht3.at' 5 (by omega)
  have c6 : w3.cell? ⟨w.heap.size, 6, none⟩ = some (.int .i64 l.fore) := ht3.at' 6 (by omega)
  have c7 : w3.cell? ⟨w.heap.size, 7, none⟩ = some (.int .i64 l.spine) := ht3.at' 7 (by omega)
  have c8 : w3.cell? ⟨w.heap.size, 8, none⟩ = some (.int .i64 l.margin) := ht3.at' 8 (by omega)
  have c9 : w3.cell? ⟨w.heap.size, 9, none⟩ = some (.int .i64 l.creep) := ht3.at' 9 (by omega)
  have c10 : w3.cell? ⟨w.heap.size, 10, none⟩ = some (.int .i64 l.style) := ht3.at' 10 (by omega)
  have cf := ht3.fz
  have hs4 := setLay_at ht3 (layF L os m cs)
  obtain ⟨W4, hW4⟩ : ∃ W4, W4 = setLay w3 w.heap.size (layF L os m cs) := ⟨_, rfl⟩
  rw [← hW4] at hs4
  have HW4 : Hid (((((((((((w3.setCell ⟨w.heap.size, 0, none⟩ (.int .i64 L.sc.cols)).setCell ⟨w.heap.size, 1, none⟩ (.int .i64 L.sc.rows)).setCell ⟨w.heap.size, 2, none⟩ (.slice os m cs)).setCell ⟨w.heap.size, 3, none⟩ (.int .i64 L.w)).setCell ⟨w.heap.size, 4, none⟩ (.int .i64 L.h)).setCell ⟨w.heap.size, 5, none⟩ (.int .i64 L.head)).setCell ⟨w.heap.size, 6, none⟩ (.int .i64 L.fore)).setCell ⟨w.heap.size, 7, none⟩ (.int .i64 L.spine)).setCell ⟨w.heap.size, 8, none⟩ (.int .i64 L.margin)).setCell ⟨w.heap.size, 9, none⟩ (.int .i64 L.creep)).setCell ⟨w.heap.size, 10, none⟩ (.int .i64 L.style) = W4) := hW4.symm
  have hb4 : Below w.heap.size w W4 := hs4.2 (bthen HB2.out hb3) (Nat.le_refl _)
  have ht4 := hs4.1
  have hz4 : w.heap.size < W4.heap.size := cell?_lt (ht4.at' 0 (by omega))
  have HT4 := Lib.hid ht4
  have HB4 := Lib.hid hb4
  have HZ4 := Lib.hid hz4
  clear hs4 hW4 hb4 ht4 ht3 hb3 hz4
  dsimp only
  go_upto_region 4 with fail
  rw [HW4.out]
  clear HW4 cf c0 c1 c2 c3 c4 c5 c6 c7 c8 c9 c10 HT1 HT2 HB1 HB2 HZ1 HZ2 HSM2
  have HCL : Hid (∀ W, Below W4.heap.size W4 W → (W.cell? ⟨w.heap.size, 0, none⟩ = some (.int .i64 L.sc.cols) ∧ W.cell? ⟨w.heap.size, 1, none⟩ = some (.int .i64 L.sc.rows) ∧ W.cell? ⟨w.heap.size, 2, none⟩ = some (.slice os m cs) ∧ W.cell? ⟨w.heap.size, 3, none⟩ = some (.int .i64 L.w) ∧ W.cell? ⟨w.heap.size, 4, none⟩ = some (.int .i64 L.h) ∧ W.cell? ⟨w.heap.size, 5, none⟩ = some (.int .i64 L.head) ∧ W.cell? ⟨w.heap.size, 6, none⟩ = some (.int .i64 L.fore) ∧ W.cell? ⟨w.heap.size, 7, none⟩ = some (.int .i64 L.spine) ∧ W.cell? ⟨w.heap.size, 8, none⟩ = some (.int .i64 L.margin) ∧ W.cell? ⟨w.heap.size, 9, none⟩ = some (.int .i64 L.creep) ∧ W.cell? ⟨w.heap.size, 10, none⟩ = some (.int .i64 L.style))) := fun W hb => by
    have h := HT4.out.below hb HZ4.out
    exact ⟨h.at' 0 (by omega), h.at' 1 (by omega), h.at' 2 (by omega), h.at' 3 (by omega), h.at' 4 (by omega), h.at' 5 (by omega), h.at' 6 (by omega), h.at' 7 (by omega), h.at' 8 (by omega), h.at' 9 (by omega), h.at' 10 (by omega)⟩
  have HCK : Hid (Calls Try.prog 7 #[.agg #[.int .i64 L.sc.cols, .int .i64 L.sc.rows, .slice os m cs, .int .i64 L.w, .int .i64 L.h, .int .i64 L.head, .int .i64 L.fore, .int .i64 L.spine, .int .i64 L.margin, .int .i64 L.creep, .int .i64 L.style]] W4 (RetCode (GoodL L) W4)) := by
    have h := icheck_any L os cs W4 (HST.out W4 HB4.out)
    rw [HML.out] at h
    exact h
  obtain ⟨c0, c1, c2, c3, c4, c5, c6, c7, c8, c9, c10⟩ := HCL.out W4 (Below.refl _ W4)
  go_wp2_with fail
  refine HCK.out.mono ?_
  intro e w5 hret
  obtain ⟨c, rfl, hiff, hb5⟩ := hret
  clear c0 c1 c2 c3 c4 c5 c6 c7 c8 c9 c10 HCK
  by_cases hc : c = 0
  · subst hc
    obtain ⟨x, hx⟩ := hiff.1 rfl
    have HG := Lib.hid hx
    have HB5 := Lib.hid hb5
    obtain ⟨c0, c1, c2, c3, c4, c5, c6, c7, c8, c9, c10⟩ := HCL.out w5 HB5.out
    obtain ⟨aN, haN⟩ : ∃ q : Nat, (q : Int) = L.w := ⟨L.w.toNat, by omega⟩
    obtain ⟨bN, hbN⟩ : ∃ q : Nat, (q : Int) = L.h := ⟨L.h.toNat, by omega⟩
    have hcc : L.sc.cols ≤ 8 ∧ L.sc.rows ≤ 8 ∧ 1 ≤ L.sc.cols ∧ 1 ≤ L.sc.rows := ⟨hx.f.inn.2.1, hx.f.inn.2.2.2.1, hx.f.inn.1, hx.f.inn.2.2.1⟩
    have hst := hx.style
    obtain ⟨per, hper⟩ : ∃ q, q = (pagesV L.sc x).length := ⟨_, rfl⟩
    obtain ⟨nl, hnl⟩ : ∃ q, q = leavesV L.sc := ⟨_, rfl⟩
    have hpl := hx.f.plen
    have hlv := leaves_bd hx.f.inn
    rw [← hnl] at hlv
    rw [← hper, ← hnl] at hpl
    have hPB : per = 2 * nl ∧ 1 ≤ nl ∧ nl ≤ 32 := by omega
    have x1 : IntKind.i64.wrap (2 * L.sc.cols) = 2 * L.sc.cols := IntWalk.i64_in _ (by omega)
    have hpi : 2 * L.sc.cols * L.sc.rows = (per : Int) := by rw [Int.mul_assoc]; omega
    have x2 : IntKind.i64.wrap (2 * L.sc.cols * L.sc.rows) = (per : Int) := by rw [← hpi]; exact IntWalk.i64_in _ (by omega)
    have x3 : IntKind.i64.wrap (3 * (per : Int)) = 3 * (per : Int) := IntWalk.i64_in _ (by omega)
    have hmc := mcV_bd (x := pg) (lo := 1) (hi := 3 * (per : Int)) (by omega)
    obtain ⟨nN, hnN⟩ : ∃ q : Nat, (q : Int) = mcV pg 1 (3 * (per : Int)) := ⟨(mcV pg 1 (3 * (per : Int))).toNat, by omega⟩
    have HMC : Hid (∀ W, Calls Try.prog 8 #[.int .i64 pg, .int .i64 1, .int .i64 (3 * (per : Int))] W fun e w' => e = .returned (.int .i64 nN) ∧ W = w') := fun W => by
      rw [hnN]
      exact mcut_any pg 1 (3 * (per : Int)) W (by omega) (by omega) (by omega)
    have hnn : 1 ≤ nN ∧ nN ≤ 3 * per := by omega
    obtain ⟨many, hmany⟩ : ∃ q, q = manyV nN per := ⟨_, rfl⟩
    have hmb : 1 ≤ many ∧ many ≤ 3 := by
      rw [hmany]
      have h1 : manyV nN per < 4 := (Nat.div_lt_iff_lt_mul (by omega)).2 (by omega)
      have h2 : 0 < manyV nN per := Nat.div_pos (by omega) (by omega)
      omega
    obtain ⟨ne, hne⟩ : ∃ b : Bool, b = (nest && ((per : Int) % 4 == 0)) := ⟨_, rfl⟩
    obtain ⟨sv, hsv⟩ : ∃ s : Int, s = if ne then 1 else 0 := ⟨_, rfl⟩
    have hn4 : ne = true → per % 4 = 0 := fun h => by
      rw [hne] at h
      have h2 : ((per : Int) % 4 == 0) = true := by
        cases nest with
        | true => exact h
        | false => cases h
      have h3 : (per : Int) % 4 = 0 := by simpa using h2
      omega
    obtain ⟨PLN, hPLN⟩ : ∃ q, q = planV nN per ne := ⟨_, rfl⟩
    have hpll : PLN.length = many := by rw [hPLN, hmany]; unfold planV; rw [List.length_map, List.length_range]
    have HPLN : Hid (∀ W, Calls Try.prog 14 #[.int .i64 nN, .int .i64 per, .int .i64 sv] W (RetPlan PLN W)) := fun W => by
      rw [hPLN]
      exact plan_any ne sv hsv nN per (by omega) (by omega) (by omega) hn4 (by rw [← hmany]; omega) W
    have HPQ : Hid (PLN = (List.range many).map (secV (nN : Int) per many ne)) := by show _ = _; rw [hPLN, hmany]; rfl
    have HSL : Hid (∀ s ∈ PLN, s.length = per ∧ ∀ p ∈ s, 0 ≤ p ∧ p ≤ 1000) := fun s hs => by
      rw [HPQ.out] at hs
      obtain ⟨k, hk, rfl⟩ := List.mem_map.1 hs
      exact ⟨secV_len _ _ _ _ _ fun _ => by omega, secV_bd _ _ _ _ _ (by omega) (List.mem_range.1 hk)⟩
    have HSV := Lib.hid hsv
    have HNE := Lib.hid hne
    have HPER := Lib.hid hper
    have HNL := Lib.hid hnl
    have HAB : Hid ((aN : Int) = L.w ∧ (bN : Int) = L.h) := ⟨haN, hbN⟩
    have HPLL := Lib.hid hpll
    have HPB := Lib.hid hPB
    have hp64 : 2 ≤ per ∧ per ≤ 64 := by omega
    have HDT : Hid (∀ W (p : Int), 0 ≤ p ∧ p ≤ 1000 → Calls Try.prog 9 #[.int .i64 L.w, .int .i64 L.h, .int .i64 p] W (fun e w' => ∃ o n c, e = .returned (.agg #[.int .i64 L.w, .int .i64 L.h, .slice o n c]) ∧ n = (listI (dotsI aN bN p)).length ∧ OwnPx w' W.heap.size (.slice o n c) (listI (dotsI aN bN p)) ∧ Below W.heap.size W w')) := fun W p hp => by
      have h := dots_any aN bN (by omega) p hp W
      rw [haN, hbN] at h
      refine h.mono ?_
      rintro e w' ⟨o, c, he, ho, hb⟩
      refine ⟨o, _, c, ?_, rfl, ho, hb⟩
      rw [he]
      show Ending.returned (.agg #[.int .i64 (aN : Int), .int .i64 (bN : Int), _]) = _
      rw [haN, hbN]
    clear hx hb5 hPB hcc hnl hpl hlv hpi hmc hnN hmany hne hn4 hsv hPLN hpll hiff hper haN hbN
    go_upto_region 9 with fail

    clear x1 x2
    go_cut [55] from 239 to 238 (fun s55 wx => s55 = .bool ne ∧ wx = w5)
    case first =>
      clear HPLN HPQ HSL HDT HCL HG
      cases nest with
      | false =>
        go_wp2_with fail
        go_meet
        exact ⟨by rw [HNE.out]; rfl, rfl⟩
      | true =>
        go_wp2_with fail
        go_meet
        exact ⟨by rw [HNE.out]; rfl, rfl⟩
    case rest =>
      obtain ⟨rfl, hwx⟩ := hcut
      rw [hwx]
      clear hwx
      go_upto_if 55 with fail
      go_cut [9] from 239 to 238 (fun s9 wx => s9 = .int .i64 sv ∧ wx = w5)
      case first =>
        clear HPLN HPQ HSL HDT HCL HG
        clear HNE
        cases ne with
        | false =>
          go_wp2_with fail
          go_meet
          exact ⟨by rw [HSV.out]; rfl, rfl⟩
        | true =>
          go_wp2_with fail
          go_meet
          exact ⟨by rw [HSV.out]; rfl, rfl⟩
      case rest =>
        obtain ⟨rfl, hwx⟩ := hcut
        rw [hwx]
        clear hwx
        go_wp2_with fail
        refine (HMC.out w5).mono ?_
        rintro e w5' ⟨rfl, rfl⟩
        clear HMC x3
        have HPL5 := Lib.hid (HPLN.out w5)
        clear HPLN c0 c1 c2 c3 c4 c5 c6 c7 c8 c9 c10
        go_wp2_with fail
        refine HPL5.out.mono ?_
        intro e w6 hret
        obtain ⟨us6, o6, c6, he, hsec6, hb6⟩ := hret
        rw [HPLL.out] at he
        subst he
        have HB6 : Hid (Below W4.heap.size W4 w6) := bthen HB5.out hb6
        have HSEC := Lib.hid hsec6
        clear hsec6 hb6 HPL5
        dsimp only
        go_upto_region 15 with fail
        obtain ⟨nE, hnE⟩ : ∃ q : Nat, (q : Int) = L.w * L.h := ⟨aN * bN, by rw [← HAB.out.1, ← HAB.out.2]; exact Int.natCast_mul _ _⟩
        have hn25 : nE ≤ 25 := by
          have h1 : L.w * L.h ≤ 5 * 5 := Int.mul_le_mul hLw.2 hLh.2 (by omega) (by omega)
          omega
        have x4 : IntKind.i64.wrap (L.w * L.h) = (nE : Int) := by rw [← hnE]; exact IntWalk.i64_in _ (by omega)
        have hnE2 : nE = aN * bN := by
          have h : (nE : Int) = ((aN * bN : Nat) : Int) := by rw [hnE, ← HAB.out.1, ← HAB.out.2, Int.natCast_mul]
          exact_mod_cast h
        have HNE2 := Lib.hid hnE2
        have mk := run_makeArr (P := Try.prog) elemPx Try.underlying35 (.int .u8 0) rfl nE (by omega) (by omega)
        have HS15 : Hid (∀ W, Below w6.heap.size w6 W → Below w6.heap.size w6 W ∧ W.cell? ⟨w.heap.size, 3, none⟩ = some (.int .i64 L.w) ∧ W.cell? ⟨w.heap.size, 4, none⟩ = some (.int .i64 L.h)) := fun W hb => by
          obtain ⟨c0, c1, c2, c3, c4, c5, c6, c7, c8, c9, c10⟩ := HCL.out W (bthen HB6.out hb)
          exact ⟨hb, c3, c4⟩
        clear hnE hnE2
        go_cut [12] from 239 to 238 (fun s12 wx => ∃ gE oE, s12 = .pointer (some ⟨gE, 0, none⟩) ∧ Hid (EmpAt w6 wx gE nE oE L.w L.h (listI (fillI aN bN 0))))
        case first =>
          clear HSEC HSL HDT HNE HSV HG HPQ
          go_region_held3 (fun W => Below w6.heap.size w6 W ∧ W.cell? ⟨w.heap.size, 3, none⟩ = some (.int .i64 L.w) ∧ W.cell? ⟨w.heap.size, 4, none⟩ = some (.int .i64 L.h))
            (first | (refine HS15.out _ ?_; (first | assumption | exact (Below.refl _ w6).drew | exact balloc (Below.refl _ w6).drew _ | exact balloc (balloc (Below.refl _ w6).drew _) _)))
            (fail)
          all_goals
            go_wp2_with fail
            go_meet
            first
              | exact ⟨_, _, rfl, EmpAt.one w6 aN bN nE _ _ HNE2.out (by unfold maxLen; omega)⟩
              | exact ⟨_, _, rfl, EmpAt.two w6 aN bN nE _ _ HNE2.out (by unfold maxLen; omega)⟩
        case rest =>
          obtain ⟨gE, oE, rfl, HE⟩ := hcut
          obtain ⟨w8, rfl⟩ : ∃ q, q = wc := ⟨_, rfl⟩
          have HB8 : Hid (Below W4.heap.size W4 w8) := bthen HB6.out HE.out.bel
          have HSEC8 := Lib.hid (HSEC.out.below (stab_slice 1 encInt) HE.out.bel)
          have HZ8 : Hid (w.heap.size < w8.heap.size ∧ gE < w8.heap.size) := ⟨by have := HZ4.out; have := HB8.out.size; omega, HE.out.lt⟩
          clear mk x4 HS15 HSEC
          go_wp2_with fail
          go_loopw [13, 14, 15, 82] (fun v13 v14 v15 i wr => ∃ k : Nat, k ≤ many ∧ i = .int .i64 k ∧ ∃ NA oA cA oB cB oC cC, v13 = .slice oA NA cA ∧ v14 = .slice oB k cB ∧ v15 = .slice oC k cC ∧ Hid (NA = k * per ∧ Below w8.heap.size w8 wr ∧ ∃ uA uB, BKS w8.heap.size wr (.slice oA NA cA) uA (((PLN.take k).flatten).map (pageI aN bN)) (.slice oB k cB) uB (plcsV per k) (.slice oC k cC) ((List.range k).map fun (i : Nat) => (i : Int)))) (fun _ _ _ i _ => many - (intOf i).toNat)
          case atStart => exact ⟨0, by omega, rfl, 0, none, 0, none, 0, none, 0, rfl, rfl, rfl, (Nat.zero_mul _).symm, Below.refl _ _, [], [], BKS.nil _ _⟩
          case round =>
            obtain ⟨k, hk, rfl, NA, oA, cA, oB, cB, oC, cC, rfl, rfl, rfl, HY⟩ := hrel
            obtain ⟨wa, rfl⟩ : ∃ wa : World, wa = wr := ⟨_, rfl⟩
            by_cases hlt : k < many
            · have kd : (k : Int) < (many : Int) := by omega
              have hkp : k < PLN.length := by rw [HPLL.out]; exact hlt
              obtain ⟨b, off, oS, cS, rfl, hcs, hsl⟩ := SecV.get (HSEC8.out.below (stab_slice 1 encInt) HY.out.2.1) hkp
              obtain ⟨S, hS⟩ : ∃ q, q = PLN[k] := ⟨_, rfl⟩
              rw [← hS] at hcs hsl
              have hSm : S.length = per ∧ ∀ p ∈ S, 0 ≤ p ∧ p ≤ 1000 := HSL.out S (by rw [hS]; exact List.getElem_mem hkp)
              rw [hSm.1] at hcs hsl
              have HSI := Lib.hid hsl
              have HSM := Lib.hid hSm
              have HTK : Hid (PLN.take (k + 1) = PLN.take k ++ [S]) := by show _ = _; rw [hS]; exact List.take_succ_eq_append_getElem hkp
              have hNB : NA ≤ 128 := by rw [HY.out.1]; exact Nat.mul_le_mul (show k ≤ 2 by omega) hp64.2
              have HBA : Hid (Below W4.heap.size W4 wa) := bthen HB8.out HY.out.2.1
              clear hS hSm hsl hkp
              go_wp2_with fail
              go_loopw [18, 19, 89] (fun v18 v19 i wr => ∃ j : Nat, j ≤ per ∧ i = .int .i64 j ∧ ∃ oI cI oN cN, v18 = .slice oI j cI ∧ v19 = .slice oN j cN ∧ Hid (Below wa.heap.size wa wr ∧ ∃ uI, INS wa.heap.size wr (.slice oI j cI) uI ((S.take j).map (pageI aN bN)) (.slice oN j cN) ((List.range j).map fun (q : Nat) => ((NA + q : Nat) : Int)))) (fun _ _ i _ => per - (intOf i).toNat)
              case atStart => exact ⟨0, by omega, rfl, none, 0, none, 0, rfl, rfl, Below.refl _ _, [], INS.nil _ _⟩
              case round =>
                obtain ⟨j, hj, rfl, oI, cI, oN, cN, rfl, rfl, HQ⟩ := hrel
                obtain ⟨wq, rfl⟩ : ∃ wq : World, wq = wr := ⟨_, rfl⟩
                by_cases hlj : j < per
                · have kj : (j : Int) < (per : Int) := by omega
                  obtain ⟨hbq, uI, hin⟩ := HQ.out
                  have hjl : j < S.length := by rw [HSM.out.1]; exact hlj
                  obtain ⟨b2, off2, rfl, hcj⟩ := IsSlice.getI (HSI.out.below hbq) (k := j) hjl
                  obtain ⟨p, hp⟩ : ∃ q, q = S[j] := ⟨_, rfl⟩
                  rw [← hp] at hcj
                  have hpb : 0 ≤ p ∧ p ≤ 1000 := HSM.out.2 p (by rw [hp]; exact List.getElem_mem hjl)
                  have HTJ : Hid (S.take (j + 1) = S.take j ++ [p]) := by show _ = _; rw [hp]; exact List.take_succ_eq_append_getElem hjl
                  obtain ⟨nj, hnj⟩ : ∃ q, q = NA + j := ⟨_, rfl⟩
                  have xN : IntKind.i64.wrap ((NA : Int) + (j : Int)) = (nj : Int) := by rw [hnj, Int.natCast_add]; exact IntWalk.i64_in _ (by omega)
                  obtain ⟨nsj, hnsj⟩ : ∃ q, q = (List.range j).map fun (q : Nat) => ((NA + q : Nat) : Int) := ⟨_, rfl⟩
                  have HNSL : Hid (nsj.length = j) := by show _ = _; rw [hnsj]; simp
                  have HNSX : Hid ((List.range (j + 1)).map (fun (q : Nat) => ((NA + q : Nat) : Int)) = nsj ++ [(nj : Int)]) := by
                    show _ = _
                    rw [List.range_succ, List.map_append, hnsj, hnj]; rfl
                  rw [← hnsj] at hin
                  have hul : uI.length = j := by rw [hin.I.len, List.length_map, List.length_take]; omega
                  have HUL := Lib.hid hul
                  have HI1 := Lib.hid (hin.below (balloc (Below.refl _ wq) (.cells #[.int .i64 nj] 3)))
                  have HNEW : Hid (∀ (q : Nat) (u : Value), (encInt (nj : Int))[q]? = some u → (wq.alloc (.cells #[.int .i64 nj] 3)).cell? ((⟨wq.heap.size, 0, none⟩ : Addr).add q) = some u) := World.news_of_block (cs := #[.int .i64 nj]) (t := 3) (fr := (0, 0)) (heap_alloc_new wq _)
                  have HBQ : Hid (Below wa.heap.size wa (wq.alloc (.cells #[.int .i64 nj] 3))) := balloc hbq _
                  clear hbq hin hjl hp hnj hnsj hul HQ
                  go_wp2_with (at_builtin; refine wpList_app1L rfl (.tmp 93) (.tmp 99) 51 rfl elemI64 Try.underlying51 wa.heap.size (.slice oN j cN) nsj encInt rfl HI1.out.N (nj : Int) ⟨wq.heap.size, 0, none⟩ 1 rfl rfl HNEW.out ?c1 ?c2 ?c3 ?c4 ?_)
                  case c1 => simp [encInt, Value.oneCell']
                  case c2 => have := HNSL.out; omega
                  case c3 => have := HNSL.out; unfold maxLen; omega
                  case c4 => exact HBQ.out.size
                  rw [HNSL.out]
                  intro g5 cap5 w5 hown5 hgr5 hat5
                  have HI2 : Hid (INS wa.heap.size w5 (.slice oI j cI) uI ((S.take j).map (pageI aN bN)) (.slice (some ⟨g5, 0, none⟩) (j + 1) cap5) (nsj ++ [(nj : Int)])) := HI1.out.extN hown5 hgr5 (by
                    rcases hat5 with e | e
                    · exact .inl e.symm
                    · exact .inr (by rw [e]; simp [Value.ownBlock]))
                  have HB2 : Hid (Below wa.heap.size wa w5) := HBQ.out.grown hgr5 HBQ.out.size (fun q hq => (Own.blk HI1.out.N hq).1)
                  clear hown5 hgr5 hat5 HI1 HNEW HBQ hcj hcs
                  by_cases hp0 : p = 0
                  · subst hp0
                    have htE := HE.out.tab.below (bthen HY.out.2.1 HB2.out) HZ8.out.2
                    have e0 : w5.cell? ⟨gE, 0, none⟩ = some (.int .i64 L.w) := htE.at' 0 (by omega)
                    have e1 : w5.cell? ⟨gE, 1, none⟩ = some (.int .i64 L.h) := htE.at' 1 (by omega)
                    have e2 : w5.cell? ⟨gE, 2, none⟩ = some (.slice oE nE nE) := htE.at' 2 (by omega)
                    have hb6 := balloc (Below.refl _ w5) (.cells #[.int .i64 L.w, .int .i64 L.h, .slice oE nE nE] 37)
                    have HI3 := Lib.hid (HI2.out.below hb6)
                    have HB3 : Hid (Below wa.heap.size wa (w5.alloc (.cells #[.int .i64 L.w, .int .i64 L.h, .slice oE nE nE] 37))) := bthen HB2.out hb6
                    have hnl2 : nE = (listI (fillI aN bN 0)).length := by rw [HNE2.out]; exact (pixL_len _ _ _).symm
                    have hpxE := HE.out.px.below (bthen HY.out.2.1 HB3.out)
                    have HR6 : Hid (RelP (w5.alloc (.cells #[.int .i64 L.w, .int .i64 L.h, .slice oE nE nE] 37)) ⟨L.w, L.h, oE, nE, nE⟩ (fillI aN bN 0)) := ⟨HAB.out.1.symm, HAB.out.2.symm, hnl2, Nat.le_of_eq hnl2.symm, hpxE⟩
                    have HG6 : Hid (∀ g, blkP ⟨L.w, L.h, oE, nE, nE⟩ g → g < w8.heap.size) := fun g hg => HE.out.px.lt (by rw [← hnl2, HNE2.out]; have h1 := HAB.out; have : 1 * 1 ≤ aN * bN := Nat.mul_le_mul (by omega) (by omega); omega) hg
                    have HNEW : Hid (∀ (q : Nat) (u : Value), (encRp ⟨L.w, L.h, oE, nE, nE⟩)[q]? = some u → (w5.alloc (.cells #[.int .i64 L.w, .int .i64 L.h, .slice oE nE nE] 37)).cell? ((⟨w5.heap.size, 0, none⟩ : Addr).add q) = some u) := World.news_of_block (cs := #[.int .i64 L.w, .int .i64 L.h, .slice oE nE nE]) (t := 37) (fr := (0, 0)) (heap_alloc_new w5 _)
                    clear htE hb6 hnl2 hpxE HI2
                    go_wp2_with (at_builtin; refine wpList_app1L rfl (.tmp 103) (.tmp 105) 31 rfl elemPlate Try.underlying31 wa.heap.size (.slice oI j cI) uI encRp rfl HI3.out.I.op ⟨L.w, L.h, oE, nE, nE⟩ ⟨w5.heap.size, 0, none⟩ 1 rfl rfl HNEW.out ?c1 ?c2 ?c3 ?c4 ?_)
                    case c1 => simp [encRp, Value.oneCell']
                    case c2 => have := HUL.out; omega
                    case c3 => have := HUL.out; unfold maxLen; omega
                    case c4 => exact HB3.out.size
                    rw [HUL.out]
                    intro g7 cap7 w7 hown7 hgr7 hat7
                    have HNX : Hid (Below wa.heap.size wa w7 ∧ ∃ uI, INS wa.heap.size w7 (.slice (some ⟨g7, 0, none⟩) (j + 1) cap7) uI ((S.take (j + 1)).map (pageI aN bN)) (.slice (some ⟨g5, 0, none⟩) (j + 1) cap5) ((List.range (j + 1)).map fun (q : Nat) => ((NA + q : Nat) : Int))) := by
                      refine ⟨HB3.out.grown hgr7 HB3.out.size (fun q hq => (HI3.out.I.op.blk hq).1), uI ++ [⟨L.w, L.h, oE, nE, nE⟩], ?_⟩
                      have hpi : pageI aN bN 0 = fillI aN bN 0 := if_pos rfl
                      rw [HNSX.out, HTJ.out, List.map_append, List.map_singleton, hpi]
                      refine HI3.out.extI HR6.out (fun g hg => ⟨by have h1 := HG6.out g hg; have h2 := HB3.out.size; have h3 := HY.out.2.1.size; omega, fun e => by have h1 := HG6.out g hg; have h2 := (HI3.out.I.op.blk e).1; have h3 := HY.out.2.1.size; omega, fun e => by have h1 := HG6.out g hg; have h2 := (Own.blk HI3.out.N e).1; have h3 := HY.out.2.1.size; omega⟩) hown7 hgr7 ?_
                      rcases hat7 with e | e
                      · exact .inl e.symm
                      · exact .inr (by rw [e]; simp [Value.ownBlock])
                    clear hown7 hgr7 hat7 HI3 HR6 HG6 HNEW HB3
                    go_wp2_with fail
                    go_roundw
                    case rel => exact ⟨j + 1, by omega, by go_num, _, _, _, _, rfl, rfl, HNX⟩
                    case measure => simp [intOf]; omega
                  · have hp0b : (p == 0) = false := by simpa using hp0
                    have HLC := Lib.hid (HCL.out w5 (bthen HBA.out HB2.out))
                    obtain ⟨-, -, -, c3, c4, -, -, -, -, -, -⟩ := HLC.out
                    have HDJ := Lib.hid (HDT.out w5 p hpb)
                    clear HLC
                    go_wp2_with fail
                    refine HDJ.out.mono ?_
                    rintro e w6 ⟨o6, n6, k6, rfl, hn6, hown6, hb6⟩
                    obtain ⟨oz, kz, ez, hcz⟩ := hown6.cap
                    simp only [Value.slice.injEq] at ez
                    have hk6 : n6 ≤ k6 := by omega
                    have hb7 := balloc (Below.refl _ w6) (.cells #[.int .i64 L.w, .int .i64 L.h, .slice o6 n6 k6] 37)
                    have HI3 := Lib.hid (HI2.out.below (bthen hb6 hb7))
                    have HB3 : Hid (Below wa.heap.size wa (w6.alloc (.cells #[.int .i64 L.w, .int .i64 L.h, .slice o6 n6 k6] 37))) := bthen HB2.out (bthen hb6 hb7)
                    have HR6 : Hid (RelP (w6.alloc (.cells #[.int .i64 L.w, .int .i64 L.h, .slice o6 n6 k6] 37)) ⟨L.w, L.h, o6, n6, k6⟩ (dotsI aN bN p)) := ⟨HAB.out.1.symm, HAB.out.2.symm, hn6, by rw [← hn6]; exact hk6, (OwnPx.at hown6).below hb7⟩
                    have HG6 : Hid (∀ g, blkP ⟨L.w, L.h, o6, n6, k6⟩ g → w5.heap.size ≤ g ∧ g < w6.heap.size) := fun g hg => hown6.blk hg
                    have HLT5 := Lib.hid HI2.out
                    have HNEW : Hid (∀ (q : Nat) (u : Value), (encRp ⟨L.w, L.h, o6, n6, k6⟩)[q]? = some u → (w6.alloc (.cells #[.int .i64 L.w, .int .i64 L.h, .slice o6 n6 k6] 37)).cell? ((⟨w6.heap.size, 0, none⟩ : Addr).add q) = some u) := World.news_of_block (cs := #[.int .i64 L.w, .int .i64 L.h, .slice o6 n6 k6]) (t := 37) (fr := (0, 0)) (heap_alloc_new w6 _)
                    clear hown6 hb6 hb7 hn6 ez hcz hk6 c3 c4 HDJ HI2
                    go_wp2_with (at_builtin; refine wpList_app1L rfl (.tmp 107) (.tmp 114) 31 rfl elemPlate Try.underlying31 wa.heap.size (.slice oI j cI) uI encRp rfl HI3.out.I.op ⟨L.w, L.h, o6, n6, k6⟩ ⟨w6.heap.size, 0, none⟩ 1 rfl rfl HNEW.out ?c1 ?c2 ?c3 ?c4 ?_)
                    case c1 => simp [encRp, Value.oneCell']
                    case c2 => have := HUL.out; omega
                    case c3 => have := HUL.out; unfold maxLen; omega
                    case c4 => exact HB3.out.size
                    rw [HUL.out]
                    intro g7 cap7 w7 hown7 hgr7 hat7
                    have HNX : Hid (Below wa.heap.size wa w7 ∧ ∃ uI, INS wa.heap.size w7 (.slice (some ⟨g7, 0, none⟩) (j + 1) cap7) uI ((S.take (j + 1)).map (pageI aN bN)) (.slice (some ⟨g5, 0, none⟩) (j + 1) cap5) ((List.range (j + 1)).map fun (q : Nat) => ((NA + q : Nat) : Int))) := by
                      refine ⟨HB3.out.grown hgr7 HB3.out.size (fun q hq => (HI3.out.I.op.blk hq).1), uI ++ [⟨L.w, L.h, o6, n6, k6⟩], ?_⟩
                      have hpi : pageI aN bN p = dotsI aN bN p := if_neg hp0
                      rw [HNSX.out, HTJ.out, List.map_append, List.map_singleton, hpi]
                      refine HI3.out.extI HR6.out (fun g hg => ⟨by have h1 := (HG6.out g hg).2; simp; omega, fun e => by have h1 := (HG6.out g hg).1; have h2 := (HLT5.out.I.op.blk e).2; omega, fun e => by have h1 := (HG6.out g hg).1; have h2 := (Own.blk HLT5.out.N e).2; omega⟩) hown7 hgr7 ?_
                      rcases hat7 with e | e
                      · exact .inl e.symm
                      · exact .inr (by rw [e]; simp [Value.ownBlock])
                    clear hown7 hgr7 hat7 HI3 HR6 HG6 HNEW HB3
                    go_wp2_with fail
                    go_roundw
                    case rel => exact ⟨j + 1, by omega, by go_num, _, _, _, _, rfl, rfl, HNX⟩
                    case measure => simp [intOf]; omega
                · obtain rfl : per = j := by omega
                  obtain ⟨hbq, uI, hin⟩ := HQ.out
                  obtain ⟨gs, hgs⟩ : ∃ gs, gs = S.map (pageI aN bN) := ⟨_, rfl⟩
                  have hst2 : S.take per = S := List.take_of_length_le (by rw [HSM.out.1]; exact Nat.le_refl _)
                  rw [hst2, ← hgs] at hin
                  have hgl : gs.length = per := by rw [hgs, List.length_map, HSM.out.1]
                  have HGS := Lib.hid hgs
                  have HGL := Lib.hid hgl
                  have HOK : Hid (PgOk L x gs) := by
                    refine ⟨fun g hg => ?_, fun g hg => ?_, by rw [hgl, HPER.out]; exact Nat.le_refl _⟩
                    · rw [hgs] at hg
                      obtain ⟨q, -, rfl⟩ := List.mem_map.1 hg
                      rw [(page_size aN bN q).1]; exact HAB.out.1
                    · rw [hgs] at hg
                      obtain ⟨q, -, rfl⟩ := List.mem_map.1 hg
                      rw [(page_size aN bN q).2]; exact HAB.out.2
                  have HPLA : Hid (PlAt wq oI gs) := by
                    obtain ⟨oa', cap', e', -, -, hv⟩ := hin.I.view (fun _ => rfl)
                    simp only [Value.slice.injEq] at e'
                    obtain ⟨rfl, -, rfl⟩ := e'
                    exact PlAt.ofRows hv
                  have hnq : ((List.range per).map fun (q : Nat) => ((NA + q : Nat) : Int)) = plcV per k := by unfold plcV; rw [HY.out.1]
                  rw [hnq] at hin
                  have HNS : Hid (SecC wq (.slice oN per cN) (plcV per k)) := by
                    obtain ⟨oz, kz, ez, hcz⟩ := Own.cap hin.N
                    simp only [Value.slice.injEq] at ez
                    refine ⟨Own.isSlice hin.N (fun _ => rfl), oN, cN, by rw [plc_len], ?_⟩
                    have := ez.2.2
                    omega
                  have HNG : Hid (∀ g, blkV (.slice oN per cN) g → wa.heap.size ≤ g ∧ g < wq.heap.size) := fun g hg => Own.blk hin.N hg
                  have HBQ := Lib.hid hbq
                  obtain ⟨SF, hSF⟩ : ∃ q, q = frV L 0 ((pagesV L.sc x).take gs.length) := ⟨_, rfl⟩
                  obtain ⟨SB, hSB⟩ : ∃ q, q = bkV L 0 ((pagesV L.sc x).take gs.length) := ⟨_, rfl⟩
                  have HIP : Hid (∀ W (back : Bool), Below wq.heap.size wq W → Calls Try.prog 10 #[.agg #[.int .i64 L.sc.cols, .int .i64 L.sc.rows, .slice os m cs, .int .i64 L.w, .int .i64 L.h, .int .i64 L.head, .int .i64 L.fore, .int .i64 L.spine, .int .i64 L.margin, .int .i64 L.creep, .int .i64 L.style], .slice oI per cI, .bool back, .bool true] W (RetPl L gs (if back then SB else SF) W)) := fun W back hb => by
                    have h := iplM_any L x HG.out os cs gs ⟨HOK.out.W, HOK.out.H⟩ HOK.out.n oI cI back W (HST.out W (HB4.out.trans ((bthen HBA.out (bthen HBQ.out hb)).mono HB4.out.size))) (HPLA.out.below hb)
                    rw [HML.out] at h
                    have h2 : Calls Try.prog 10 #[.agg #[.int .i64 L.sc.cols, .int .i64 L.sc.rows, .slice os m cs, .int .i64 L.w, .int .i64 L.h, .int .i64 L.head, .int .i64 L.fore, .int .i64 L.spine, .int .i64 L.margin, .int .i64 L.creep, .int .i64 L.style], .slice oI gs.length cI, .bool back, .bool true] W (RetPl L gs (if back then SB else SF) W) := by
                      rw [hSF, hSB]
                      cases back with
                      | false => exact h
                      | true => exact h
                    rw [hgl] at h2
                    exact h2
                  have HS := Lib.hid (And.intro hSF hSB)
                  have HIF : Hid (Calls Try.prog 10 #[.agg #[.int .i64 L.sc.cols, .int .i64 L.sc.rows, .slice os m cs, .int .i64 L.w, .int .i64 L.h, .int .i64 L.head, .int .i64 L.fore, .int .i64 L.spine, .int .i64 L.margin, .int .i64 L.creep, .int .i64 L.style], .slice oI per cI, .bool false, .bool true] wq (RetPl L gs SF wq)) := HIP.out wq false (Below.refl _ wq)
                  have HIB : Hid (∀ W, Below wq.heap.size wq W → Calls Try.prog 10 #[.agg #[.int .i64 L.sc.cols, .int .i64 L.sc.rows, .slice os m cs, .int .i64 L.w, .int .i64 L.h, .int .i64 L.head, .int .i64 L.fore, .int .i64 L.spine, .int .i64 L.margin, .int .i64 L.creep, .int .i64 L.style], .slice oI per cI, .bool true, .bool true] W (RetPl L gs SB W)) := fun W hb => HIP.out W true hb
                  obtain ⟨c0, c1, c2, c3, c4, c5, c6, c7, c8, c9, c10⟩ := HCL.out wq (bthen HBA.out hbq)
                  clear HIP HPLA hgs hst2 hgl hnq hin hbq hSF hSB hlj hj HQ hcs
                  go_wp2_with fail
                  refine HIF.out.mono ?_
                  intro e w3 hret
                  clear c0 c1 c2 c3 c4 c5 c6 c7 c8 c9 c10 HIF
                  obtain ⟨D1, hd1, hd2, o3, k3, he, hown3, hb3⟩ := hret
                  obtain ⟨M, hM⟩ : ∃ q, q = foldI D1 gs SF := ⟨_, rfl⟩
                  have hMZ : M.W = (fullW L).toNat ∧ M.H = (fullH L).toNat := by rw [hM, (foldI_size _ _ _).1, (foldI_size _ _ _).2]; exact ⟨hd1, hd2⟩
                  rw [← hM] at he hown3
                  obtain ⟨nM, hnM⟩ : ∃ q, q = (listI M).length := ⟨_, rfl⟩
                  rw [← hnM] at he
                  subst he
                  obtain ⟨W4', hW4'⟩ : ∃ W, W = w3.alloc (.cells #[.int .i64 M.W, .int .i64 M.H, .slice o3 nM k3] 37) := ⟨_, rfl⟩
                  have hg4 : FTab (fun v : Value => v) W4' w3.heap.size 3 (outF (.int .i64 M.W) (.int .i64 M.H) (.slice o3 nM k3)) := by rw [hW4']; exact outF_new w3 _ _ _ _
                  have hb34 : Below w3.heap.size w3 W4' := by rw [hW4']; exact balloc (Below.refl _ w3) _
                  have hb4 : Below wq.heap.size wq W4' := bthen hb3 hb34
                  have hz34 : w3.heap.size < W4'.heap.size := by rw [hW4']; simp
                  have HX4 : Hid (PxAt W4' o3 nM k3 (listI M)) := by rw [hnM]; exact (OwnPx.at hown3).below hb34
                  have HD1 : Hid ((D1.W = (fullW L).toNat ∧ D1.H = (fullH L).toNat) ∧ M = foldI D1 gs SF) := ⟨⟨hd1, hd2⟩, hM⟩
                  have HMZ := Lib.hid hMZ
                  have HW4' := Lib.hid hW4'
                  have HG4 := Lib.hid hg4
                  have HB4' := Lib.hid hb4
                  have HZ4' := Lib.hid hz34
                  have HNM := Lib.hid hnM
                  clear hW4' hg4 hb34 hb4 hz34 hown3 hb3 hnM hM hMZ hd1 hd2
                  dsimp only
                  go_upto_region 33 with fail
                  rw [← HW4'.out]
                  clear HW4'
                  obtain ⟨c0, c1, c2, c3, c4, c5, c6, c7, c8, c9, c10⟩ := HCL.out W4' (bthen HBA.out (bthen HBQ.out HB4'.out))
                  have HIB4 := Lib.hid (HIB.out W4' HB4'.out)
                  clear HIB
                  go_wp2_with fail
                  refine HIB4.out.mono ?_
                  intro e w5 hret
                  clear c0 c1 c2 c3 c4 c5 c6 c7 c8 c9 c10 HIB4
                  obtain ⟨D2, hd1, hd2, o5, k5, he, hown5, hb5⟩ := hret
                  obtain ⟨P, hP⟩ : ∃ q, q = foldI D2 gs SB := ⟨_, rfl⟩
                  have hPZ : P.W = (fullW L).toNat ∧ P.H = (fullH L).toNat := by rw [hP, (foldI_size _ _ _).1, (foldI_size _ _ _).2]; exact ⟨hd1, hd2⟩
                  rw [← hP] at he hown5
                  obtain ⟨nP, hnP⟩ : ∃ q, q = (listI P).length := ⟨_, rfl⟩
                  rw [← hnP] at he
                  subst he
                  obtain ⟨W6, hW6⟩ : ∃ W, W = w5.alloc (.cells #[.int .i64 P.W, .int .i64 P.H, .slice o5 nP k5] 37) := ⟨_, rfl⟩
                  have hg6 : FTab (fun v : Value => v) W6 w5.heap.size 3 (outF (.int .i64 P.W) (.int .i64 P.H) (.slice o5 nP k5)) := by rw [hW6]; exact outF_new w5 _ _ _ _
                  have hb56 : Below w5.heap.size w5 W6 := by rw [hW6]; exact balloc (Below.refl _ w5) _
                  have hb6 : Below W4'.heap.size W4' W6 := bthen hb5 hb56
                  have hx6 : PxAt W6 o5 (listI P).length k5 (listI P) := (OwnPx.at hown5).below hb56
                  have HD2 : Hid ((D2.W = (fullW L).toNat ∧ D2.H = (fullH L).toNat) ∧ P = foldI D2 gs SB) := ⟨⟨hd1, hd2⟩, hP⟩
                  have HW6 := Lib.hid hW6
                  have HB6' := Lib.hid (bthen HB4'.out hb6)
                  have hg4 := HG4.out.below hb6 HZ4'.out
                  have hop := one_pos HG.out
                  have HOP := Lib.hid hop
                  have HMS : Hid (Sized M) := by
                    have hl := HG.out.large
                    have hf : 1 ≤ fullW L ∧ 1 ≤ fullH L := by
                      constructor
                      · unfold fullW; split <;> omega
                      · unfold fullH; split <;> omega
                    have h1 := HMZ.out
                    show Sized M
                    exact ⟨by rw [h1.1]; omega, by rw [h1.1]; omega, by rw [h1.2]; omega, by rw [h1.2]; omega⟩
                  have HCT : Hid (Calls Try.prog 11 #[.agg #[.int .i64 M.W, .int .i64 M.H, .slice o3 nM k3], .agg #[.int .i64 P.W, .int .i64 P.H, .slice o5 nP k5], .int .i64 L.style] W6 (fun e w' => ∃ (n c : Nat) (us : List RawB) (ss : List (Img × Img)) (oa : Option Addr), 1 ≤ n ∧ n ≤ 2 ∧ e = .returned (.tuple #[.slice oa n c, .int .i64 0]) ∧ n = ss.length ∧ RowB w' oa us ss ∧ ss[n - 1]? = some (lastS L M P) ∧ Below W6.heap.size W6 w')) := by
                    have hm := HMZ.out
                    have h1 : L.style = 1 → 1 ≤ oW L ∧ M.W = 2 * oW L := fun h => by
                      have h2 : fullW L = oneW L * 2 := by unfold fullW; rw [if_pos h]
                      unfold oW
                      rw [hm.1, h2]; omega
                    have h2 : L.style = 2 → 1 ≤ oH L ∧ M.H = 2 * oH L := fun h => by
                      have h2 : fullH L = oneH L * 2 := by unfold fullH; rw [if_pos h]
                      unfold oH
                      rw [hm.2, h2]; omega
                    have h := cutl_any L L.style ⟨rfl, hst⟩ M P HMS.out (by rw [hPZ.1, hm.1]) (by rw [hPZ.2, hm.2]) h1 h2 o3 o5 k3 k5 W6 (by rw [← HNM.out]; exact HX4.out.below hb6) hx6
                    rw [← HNM.out, ← hnP] at h
                    exact h
                  have e0 : W6.cell? ⟨w3.heap.size, 0, none⟩ = some (.int .i64 M.W) := hg4.at' 0 (by omega)
                  have e1 : W6.cell? ⟨w3.heap.size, 1, none⟩ = some (.int .i64 M.H) := hg4.at' 1 (by omega)
                  have e2 : W6.cell? ⟨w3.heap.size, 2, none⟩ = some (.slice o3 nM k3) := hg4.at' 2 (by omega)
                  have f0 : W6.cell? ⟨w5.heap.size, 0, none⟩ = some (.int .i64 P.W) := hg6.at' 0 (by omega)
                  have f1 : W6.cell? ⟨w5.heap.size, 1, none⟩ = some (.int .i64 P.H) := hg6.at' 1 (by omega)
                  have f2 : W6.cell? ⟨w5.heap.size, 2, none⟩ = some (.slice o5 nP k5) := hg6.at' 2 (by omega)
                  obtain ⟨c0, c1, c2, c3, c4, c5, c6, c7, c8, c9, c10⟩ := HCL.out W6 (bthen HBA.out (bthen HBQ.out HB6'.out))
                  clear hW6 hg6 hg4 hb56 hb6 hb5 hown5 hnP hx6 hP hPZ hd1 hd2 hop HG4 HX4 c0 c1 c2 c3 c4 c5 c6 c7 c8 c9
                  dsimp only
                  go_upto_region 34 with fail
                  rw [← HW6.out]
                  clear HW6
                  go_wp2_with fail
                  refine HCT.out.mono ?_
                  intro e w7 hret
                  clear e0 e1 e2 f0 f1 f2 HCT c10
                  obtain ⟨n7, q7, us7, ss7, o7, hn1, hn2, rfl, hnl7, hrow7, hlast, hb7⟩ := hret
                  have HB7 : Hid (Below wq.heap.size wq w7) := bthen HB6'.out hb7
                  have HNL7 := Lib.hid hnl7
                  have HLA := Lib.hid hlast
                  clear hnl7 hlast
                  have hn7b : ((n7 : Int) == 0) = false := by
                    have h : ¬ (n7 : Int) = 0 := by omega
                    simpa using h
                  have hn7c : ¬ (n7 : Int) = 0 := by omega
                  dsimp only
                  go_upto_region 37 with fail
                  obtain ⟨FB, hFB⟩ : ∃ q, q = lastS L M P := ⟨_, rfl⟩
                  have hMe : M = frD D1 L x gs := by rw [HD1.out.2, HS.out.1]; rfl
                  have hPe : P = bkD D2 L x gs := by rw [HD2.out.2, HS.out.2]; rfl
                  have hll := last_law HG.out HOK.out.W HOK.out.H D1 D2 HD1.out.1 HD2.out.1
                  rw [← hMe, ← hPe, ← hFB] at hll
                  obtain ⟨⟨z1, z2, z3, z4⟩, F0, B0, hpx⟩ := hll
                  have HPX := Lib.hid hpx
                  have HZF : Hid ((FB.1.W = oW L ∧ FB.1.H = oH L) ∧ FB.2.W = oW L ∧ FB.2.H = oH L) := ⟨⟨z1, z2⟩, z3, z4⟩
                  have HSZ1 : Hid (Sized FB.1) := by
                    have h := HMS.out
                    have h1 := HOP.out
                    have hl := HG.out.large
                    show Sized FB.1
                    refine ⟨by rw [z1]; unfold oW; omega, ?_, by rw [z2]; unfold oH; omega, ?_⟩
                    · rw [z1]; unfold oW; have : fullW L = oneW L ∨ fullW L = oneW L * 2 := by unfold fullW; split <;> omega
                      omega
                    · rw [z2]; unfold oH; have : fullH L = oneH L ∨ fullH L = oneH L * 2 := by unfold fullH; split <;> omega
                      omega
                  obtain ⟨nF, hnF⟩ : ∃ q, q = (listI FB.1).length := ⟨_, rfl⟩
                  obtain ⟨nK, hnK⟩ : ∃ q, q = (listI FB.2).length := ⟨_, rfl⟩
                  obtain ⟨LL, hLL⟩ : ∃ q, q = leafRow L FB.1 FB.2 (pagesV L.sc x) (leavesV L.sc) := ⟨_, rfl⟩
                  have hlln : LL.length = nl := by rw [hLL, HNL.out]; simp [leafRow]
                  have HNF : Hid (nF = (listI FB.1).length ∧ nK = (listI FB.2).length) := ⟨hnF, hnK⟩
                  have HCL7 : Hid (∀ W, Below w7.heap.size w7 W → (W.cell? ⟨w.heap.size, 0, none⟩ = some (.int .i64 L.sc.cols) ∧ W.cell? ⟨w.heap.size, 1, none⟩ = some (.int .i64 L.sc.rows) ∧ W.cell? ⟨w.heap.size, 2, none⟩ = some (.slice os m cs) ∧ W.cell? ⟨w.heap.size, 3, none⟩ = some (.int .i64 L.w) ∧ W.cell? ⟨w.heap.size, 4, none⟩ = some (.int .i64 L.h) ∧ W.cell? ⟨w.heap.size, 5, none⟩ = some (.int .i64 L.head) ∧ W.cell? ⟨w.heap.size, 6, none⟩ = some (.int .i64 L.fore) ∧ W.cell? ⟨w.heap.size, 7, none⟩ = some (.int .i64 L.spine) ∧ W.cell? ⟨w.heap.size, 8, none⟩ = some (.int .i64 L.margin) ∧ W.cell? ⟨w.heap.size, 9, none⟩ = some (.int .i64 L.creep) ∧ W.cell? ⟨w.heap.size, 10, none⟩ = some (.int .i64 L.style))) := fun W hb => HCL.out W (bthen HBA.out (bthen HBQ.out (bthen HB7.out hb)))
                  have HFO : Hid (∀ W oF kF oK kK, Below w7.heap.size w7 W → PxAt W oF nF kF (listI FB.1) → PxAt W oK nK kK (listI FB.2) → Calls Try.prog 15 #[.agg #[.int .i64 FB.1.W, .int .i64 FB.1.H, .slice oF nF kF, .int .i64 FB.2.W, .int .i64 FB.2.H, .slice oK nK kK], .agg #[.int .i64 L.sc.cols, .int .i64 L.sc.rows, .slice os m cs, .int .i64 L.w, .int .i64 L.h, .int .i64 L.head, .int .i64 L.fore, .int .i64 L.spine, .int .i64 L.margin, .int .i64 L.creep, .int .i64 L.style]] W (fun e w' => ∃ us oa c, e = .returned (.tuple #[.slice oa nl c, .int .i64 0]) ∧ RowB w' oa us LL ∧ Below W.heap.size W w')) := fun W oF kF oK kK hb h1 h2 => by
                    rw [hnF, hnK] at *
                    have h := bfold_any L x HG.out os cs FB.1 FB.2 HZF.out.1 HZF.out.2 HSZ1.out oF oK kF kK W (HST.out W (HB4.out.trans ((bthen HBA.out (bthen HBQ.out (bthen HB7.out hb))).mono HB4.out.size))) h1 h2
                    rw [HML.out, ← hLL] at h
                    refine h.mono ?_
                    rintro e w' ⟨us, oa, c, he, hr, hb'⟩
                    rw [hlln] at he
                    exact ⟨us, oa, c, he, hr, hb'⟩
                  have HLS : Hid (∀ i (h : i < ss7.length), i + 1 = n7 → ss7[i] = FB) := fun i h e => by
                    have h1 : n7 - 1 = i := by omega
                    have hlast := HLA.out
                    rw [h1, List.getElem?_eq_getElem h] at hlast
                    rw [hFB]
                    exact Option.some.inj hlast
                  have HROW := Lib.hid hrow7
                  have HLL := Lib.hid (And.intro hLL hlln)
                  clear hFB hMe hPe z1 z2 z3 z4 hpx hnF hnK hLL hlln hrow7 hb7
                  go_cut [28, 23] from 239 to 238 (fun s28 s23 wx => ∃ oL cL, s28 = .slice oL nl cL ∧ s23 = .int .i64 0 ∧ Hid (∃ us, RowB wx oL us LL ∧ Below w7.heap.size w7 wx))
                  case first =>
                    clear HPX HNS HNG HY HGS HSI HSM HTK HE HSEC8 HSL HPQ
                    have hn12 : n7 = 1 ∨ n7 = 2 := by omega
                    rcases hn12 with hn0 | hn0
                    · have y1 : IntKind.i64.wrap ((n7 : Int) - 1) = 0 := by rw [hn0]; rfl
                      have y2 : (0 : Int) < (n7 : Int) := by omega
                      have y3 : IntKind.i64.wrap 0 = 0 := rfl
                      have y4 : 0 < n7 := by omega
                      have HN0 := Lib.hid hn0
                      clear hn0 hn1 hn2
                      obtain ⟨b7, off7, oF, kF, oK, kK, rfl, g0, g1, g2, g3, g4, g5, pF, pB⟩ := RowB.at HROW.out (i := 0) (by have := HNL7.out; have := HN0.out; omega)
                      have hls := HLS.out 0 (by have := HNL7.out; have := HN0.out; omega) HN0.out.symm
                      rw [hls] at g0 g1 g2 g3 g4 g5 pF pB
                      rw [← HNF.out.1] at g2 pF
                      rw [← HNF.out.2] at g5 pB
                      have HSF : Hid (∀ W, Below w7.heap.size w7 W → Below w7.heap.size w7 W ∧ W.cell? ⟨b7, off7, none⟩ = some (.int .i64 FB.1.W) ∧ W.cell? ⟨b7, off7 + 1, none⟩ = some (.int .i64 FB.1.H) ∧ W.cell? ⟨b7, off7 + 2, none⟩ = some (.slice oF nF kF) ∧ W.cell? ⟨b7, off7 + 3, none⟩ = some (.int .i64 FB.2.W) ∧ W.cell? ⟨b7, off7 + 4, none⟩ = some (.int .i64 FB.2.H) ∧ W.cell? ⟨b7, off7 + 5, none⟩ = some (.slice oK nK kK) ∧ W.cell? ⟨w.heap.size, 0, none⟩ = some (.int .i64 L.sc.cols) ∧ W.cell? ⟨w.heap.size, 1, none⟩ = some (.int .i64 L.sc.rows) ∧ W.cell? ⟨w.heap.size, 2, none⟩ = some (.slice os m cs) ∧ W.cell? ⟨w.heap.size, 3, none⟩ = some (.int .i64 L.w) ∧ W.cell? ⟨w.heap.size, 4, none⟩ = some (.int .i64 L.h) ∧ W.cell? ⟨w.heap.size, 5, none⟩ = some (.int .i64 L.head) ∧ W.cell? ⟨w.heap.size, 6, none⟩ = some (.int .i64 L.fore) ∧ W.cell? ⟨w.heap.size, 7, none⟩ = some (.int .i64 L.spine) ∧ W.cell? ⟨w.heap.size, 8, none⟩ = some (.int .i64 L.margin) ∧ W.cell? ⟨w.heap.size, 9, none⟩ = some (.int .i64 L.creep) ∧ W.cell? ⟨w.heap.size, 10, none⟩ = some (.int .i64 L.style)) := fun W hb => by
                        have hc := HCL7.out W hb
                        have h0 : w7.cell? ⟨b7, off7, none⟩ = some (.int .i64 FB.1.W) := g0
                        have h1 : w7.cell? ⟨b7, off7 + 1, none⟩ = some (.int .i64 FB.1.H) := g1
                        have h2 : w7.cell? ⟨b7, off7 + 2, none⟩ = some (.slice oF nF kF) := g2
                        have h3 : w7.cell? ⟨b7, off7 + 3, none⟩ = some (.int .i64 FB.2.W) := g3
                        have h4 : w7.cell? ⟨b7, off7 + 4, none⟩ = some (.int .i64 FB.2.H) := g4
                        have h5 : w7.cell? ⟨b7, off7 + 5, none⟩ = some (.slice oK nK kK) := g5
                        exact ⟨hb, keepCell hb h0, keepCell hb h1, keepCell hb h2, keepCell hb h3, keepCell hb h4, keepCell hb h5, hc⟩
                      have HFO2 : Hid (∀ W, Below w7.heap.size w7 W → Calls Try.prog 15 #[.agg #[.int .i64 FB.1.W, .int .i64 FB.1.H, .slice oF nF kF, .int .i64 FB.2.W, .int .i64 FB.2.H, .slice oK nK kK], .agg #[.int .i64 L.sc.cols, .int .i64 L.sc.rows, .slice os m cs, .int .i64 L.w, .int .i64 L.h, .int .i64 L.head, .int .i64 L.fore, .int .i64 L.spine, .int .i64 L.margin, .int .i64 L.creep, .int .i64 L.style]] W (fun e w' => ∃ us oa c, e = .returned (.tuple #[.slice oa nl c, .int .i64 0]) ∧ RowB w' oa us LL ∧ Below W.heap.size W w')) := fun W hb => HFO.out W oF kF oK kK hb (pF.below hb) (pB.below hb)
                      clear g0 g1 g2 g3 g4 g5 pF pB hls HROW HNL7 HLS HFO HCL7
                      go_region_held3 (fun W => Below w7.heap.size w7 W ∧ W.cell? ⟨b7, off7, none⟩ = some (.int .i64 FB.1.W) ∧ W.cell? ⟨b7, off7 + 1, none⟩ = some (.int .i64 FB.1.H) ∧ W.cell? ⟨b7, off7 + 2, none⟩ = some (.slice oF nF kF) ∧ W.cell? ⟨b7, off7 + 3, none⟩ = some (.int .i64 FB.2.W) ∧ W.cell? ⟨b7, off7 + 4, none⟩ = some (.int .i64 FB.2.H) ∧ W.cell? ⟨b7, off7 + 5, none⟩ = some (.slice oK nK kK) ∧ W.cell? ⟨w.heap.size, 0, none⟩ = some (.int .i64 L.sc.cols) ∧ W.cell? ⟨w.heap.size, 1, none⟩ = some (.int .i64 L.sc.rows) ∧ W.cell? ⟨w.heap.size, 2, none⟩ = some (.slice os m cs) ∧ W.cell? ⟨w.heap.size, 3, none⟩ = some (.int .i64 L.w) ∧ W.cell? ⟨w.heap.size, 4, none⟩ = some (.int .i64 L.h) ∧ W.cell? ⟨w.heap.size, 5, none⟩ = some (.int .i64 L.head) ∧ W.cell? ⟨w.heap.size, 6, none⟩ = some (.int .i64 L.fore) ∧ W.cell? ⟨w.heap.size, 7, none⟩ = some (.int .i64 L.spine) ∧ W.cell? ⟨w.heap.size, 8, none⟩ = some (.int .i64 L.margin) ∧ W.cell? ⟨w.heap.size, 9, none⟩ = some (.int .i64 L.creep) ∧ W.cell? ⟨w.heap.size, 10, none⟩ = some (.int .i64 L.style))
                        (first | (refine HSF.out _ ?_; (first | assumption | exact (Below.refl _ w7).drew)))
                        (first | fail | (go_simp; go_at_call 15; (with_reducible refine (HFO2.out _ (And.left (by assumption))).mono ?_); rintro e wx ⟨usL, oL, cL, rfl, hrL, hbx⟩; have hzx : Below w7.heap.size w7 wx := bthen (And.left (by assumption)) hbx; have HRL := Lib.hid hrL; clear hrL hbx))
                      all_goals
                        go_wp2_with fail
                        go_meet
                        exact ⟨_, _, rfl, rfl, _, HRL.out, hzx⟩
                    · have y1 : IntKind.i64.wrap ((n7 : Int) - 1) = 1 := by rw [hn0]; rfl
                      have y2 : (1 : Int) < (n7 : Int) := by omega
                      have y3 : IntKind.i64.wrap 1 = 1 := rfl
                      have y4 : 1 < n7 := by omega
                      have HN0 := Lib.hid hn0
                      clear hn0 hn1 hn2
                      obtain ⟨b7, off7, oF, kF, oK, kK, rfl, g0, g1, g2, g3, g4, g5, pF, pB⟩ := RowB.at HROW.out (i := 1) (by have := HNL7.out; have := HN0.out; omega)
                      have hls := HLS.out 1 (by have := HNL7.out; have := HN0.out; omega) HN0.out.symm
                      rw [hls] at g0 g1 g2 g3 g4 g5 pF pB
                      rw [← HNF.out.1] at g2 pF
                      rw [← HNF.out.2] at g5 pB
                      have HSF : Hid (∀ W, Below w7.heap.size w7 W → Below w7.heap.size w7 W ∧ W.cell? ⟨b7, off7 + 6, none⟩ = some (.int .i64 FB.1.W) ∧ W.cell? ⟨b7, off7 + 6 + 1, none⟩ = some (.int .i64 FB.1.H) ∧ W.cell? ⟨b7, off7 + 6 + 2, none⟩ = some (.slice oF nF kF) ∧ W.cell? ⟨b7, off7 + 6 + 3, none⟩ = some (.int .i64 FB.2.W) ∧ W.cell? ⟨b7, off7 + 6 + 4, none⟩ = some (.int .i64 FB.2.H) ∧ W.cell? ⟨b7, off7 + 6 + 5, none⟩ = some (.slice oK nK kK) ∧ W.cell? ⟨w.heap.size, 0, none⟩ = some (.int .i64 L.sc.cols) ∧ W.cell? ⟨w.heap.size, 1, none⟩ = some (.int .i64 L.sc.rows) ∧ W.cell? ⟨w.heap.size, 2, none⟩ = some (.slice os m cs) ∧ W.cell? ⟨w.heap.size, 3, none⟩ = some (.int .i64 L.w) ∧ W.cell? ⟨w.heap.size, 4, none⟩ = some (.int .i64 L.h) ∧ W.cell? ⟨w.heap.size, 5, none⟩ = some (.int .i64 L.head) ∧ W.cell? ⟨w.heap.size, 6, none⟩ = some (.int .i64 L.fore) ∧ W.cell? ⟨w.heap.size, 7, none⟩ = some (.int .i64 L.spine) ∧ W.cell? ⟨w.heap.size, 8, none⟩ = some (.int .i64 L.margin) ∧ W.cell? ⟨w.heap.size, 9, none⟩ = some (.int .i64 L.creep) ∧ W.cell? ⟨w.heap.size, 10, none⟩ = some (.int .i64 L.style)) := fun W hb => by
                        have hc := HCL7.out W hb
                        have h0 : w7.cell? ⟨b7, off7 + 6, none⟩ = some (.int .i64 FB.1.W) := g0
                        have h1 : w7.cell? ⟨b7, off7 + 6 + 1, none⟩ = some (.int .i64 FB.1.H) := g1
                        have h2 : w7.cell? ⟨b7, off7 + 6 + 2, none⟩ = some (.slice oF nF kF) := g2
                        have h3 : w7.cell? ⟨b7, off7 + 6 + 3, none⟩ = some (.int .i64 FB.2.W) := g3
                        have h4 : w7.cell? ⟨b7, off7 + 6 + 4, none⟩ = some (.int .i64 FB.2.H) := g4
                        have h5 : w7.cell? ⟨b7, off7 + 6 + 5, none⟩ = some (.slice oK nK kK) := g5
                        exact ⟨hb, keepCell hb h0, keepCell hb h1, keepCell hb h2, keepCell hb h3, keepCell hb h4, keepCell hb h5, hc⟩
                      have HFO2 : Hid (∀ W, Below w7.heap.size w7 W → Calls Try.prog 15 #[.agg #[.int .i64 FB.1.W, .int .i64 FB.1.H, .slice oF nF kF, .int .i64 FB.2.W, .int .i64 FB.2.H, .slice oK nK kK], .agg #[.int .i64 L.sc.cols, .int .i64 L.sc.rows, .slice os m cs, .int .i64 L.w, .int .i64 L.h, .int .i64 L.head, .int .i64 L.fore, .int .i64 L.spine, .int .i64 L.margin, .int .i64 L.creep, .int .i64 L.style]] W (fun e w' => ∃ us oa c, e = .returned (.tuple #[.slice oa nl c, .int .i64 0]) ∧ RowB w' oa us LL ∧ Below W.heap.size W w')) := fun W hb => HFO.out W oF kF oK kK hb (pF.below hb) (pB.below hb)
                      clear g0 g1 g2 g3 g4 g5 pF pB hls HROW HNL7 HLS HFO HCL7
                      go_region_held3 (fun W => Below w7.heap.size w7 W ∧ W.cell? ⟨b7, off7 + 6, none⟩ = some (.int .i64 FB.1.W) ∧ W.cell? ⟨b7, off7 + 6 + 1, none⟩ = some (.int .i64 FB.1.H) ∧ W.cell? ⟨b7, off7 + 6 + 2, none⟩ = some (.slice oF nF kF) ∧ W.cell? ⟨b7, off7 + 6 + 3, none⟩ = some (.int .i64 FB.2.W) ∧ W.cell? ⟨b7, off7 + 6 + 4, none⟩ = some (.int .i64 FB.2.H) ∧ W.cell? ⟨b7, off7 + 6 + 5, none⟩ = some (.slice oK nK kK) ∧ W.cell? ⟨w.heap.size, 0, none⟩ = some (.int .i64 L.sc.cols) ∧ W.cell? ⟨w.heap.size, 1, none⟩ = some (.int .i64 L.sc.rows) ∧ W.cell? ⟨w.heap.size, 2, none⟩ = some (.slice os m cs) ∧ W.cell? ⟨w.heap.size, 3, none⟩ = some (.int .i64 L.w) ∧ W.cell? ⟨w.heap.size, 4, none⟩ = some (.int .i64 L.h) ∧ W.cell? ⟨w.heap.size, 5, none⟩ = some (.int .i64 L.head) ∧ W.cell? ⟨w.heap.size, 6, none⟩ = some (.int .i64 L.fore) ∧ W.cell? ⟨w.heap.size, 7, none⟩ = some (.int .i64 L.spine) ∧ W.cell? ⟨w.heap.size, 8, none⟩ = some (.int .i64 L.margin) ∧ W.cell? ⟨w.heap.size, 9, none⟩ = some (.int .i64 L.creep) ∧ W.cell? ⟨w.heap.size, 10, none⟩ = some (.int .i64 L.style))
                        (first | (refine HSF.out _ ?_; (first | assumption | exact (Below.refl _ w7).drew)))
                        (first | fail | (go_simp; go_at_call 15; (with_reducible refine (HFO2.out _ (And.left (by assumption))).mono ?_); rintro e wx ⟨usL, oL, cL, rfl, hrL, hbx⟩; have hzx : Below w7.heap.size w7 wx := bthen (And.left (by assumption)) hbx; have HRL := Lib.hid hrL; clear hrL hbx))
                      all_goals
                        go_wp2_with fail
                        go_meet
                        exact ⟨_, _, rfl, rfl, _, HRL.out, hzx⟩
                  case rest =>
                    obtain ⟨oL, cL, rfl, rfl, HL⟩ := hcut
                    obtain ⟨w9, rfl⟩ : ∃ q, q = wc := ⟨_, rfl⟩
                    obtain ⟨usL, hrL, hbL⟩ := HL.out
                    have HB9 : Hid (Below wq.heap.size wq w9) := bthen HB7.out hbL
                    have HRD : Hid (Calls Try.prog 16 #[.slice oL nl cL, .agg #[.int .i64 L.sc.cols, .int .i64 L.sc.rows, .slice os m cs, .int .i64 L.w, .int .i64 L.h, .int .i64 L.head, .int .i64 L.fore, .int .i64 L.spine, .int .i64 L.margin, .int .i64 L.creep, .int .i64 L.style]] w9 (RetRd (trimTo L LL nl) w9)) := by
                      have hss := leaf_sized HG.out FB.1 FB.2
                      rw [← HLL.out.1] at hss
                      have h := brd_any L x HG.out os cs LL (by rw [HLL.out.2, HNL.out]) hss oL cL usL w9 (HST.out w9 (HB4.out.trans ((bthen HBA.out (bthen HBQ.out HB9.out)).mono HB4.out.size))) hrL
                      rw [HML.out, HLL.out.2] at h
                      exact h
                    obtain ⟨c0, c1, c2, c3, c4, c5, c6, c7, c8, c9, c10⟩ := HCL.out w9 (bthen HBA.out (bthen HBQ.out HB9.out))
                    clear hrL hbL HL HFO HCL7 HLS HROW HSZ1 hn1 hn2 hn7b hn7c
                    go_wp2_with fail
                    refine HRD.out.mono ?_
                    intro e w11 hret
                    clear c0 c1 c2 c3 c4 c5 c6 c7 c8 c9 c10 HRD
                    obtain ⟨us11, o11, c11, he, hrv, hb11, -, hfb⟩ := hret
                    have htl : (trimTo L LL nl).length = per := by rw [trim_len]; have := HPB.out; omega
                    rw [htl] at he
                    subst he
                    have hgsv : RowsV encRp blkP RelP 3 w11 o11 us11 gs := by
                      have hs := sect_law HG.out HOK.out.W HOK.out.H (by rw [HGL.out, HPER.out]) FB.1 FB.2 F0 B0 HPX.out
                      rw [← HLL.out.1, ← HNL.out] at hs
                      exact hrv.same hs.1.symm fun i h1 h2 => hs.2 i h1 h2
                    have hus : us11.length = per := by rw [hgsv.len, HGL.out]
                    obtain ⟨v0, hv0, b11, off11, rfl, hc0⟩ := hgsv.flat 0 (by omega) 0 (by omega)
                    have HGV := Lib.hid hgsv
                    have HUS := Lib.hid hus
                    have HFB := Lib.hid hfb
                    have HB11 : Hid (Below wa.heap.size wa w11) := bthen HBQ.out (bthen HB9.out hb11)
                    have HQ9 : Hid (wa.heap.size ≤ wq.heap.size ∧ wq.heap.size ≤ w9.heap.size ∧ w9.heap.size ≤ w11.heap.size) := ⟨HBQ.out.size, HB9.out.size, hb11.size⟩
                    have HBQ11 : Hid (Below wq.heap.size wq w11) := bthen HB9.out hb11
                    obtain ⟨hNA, hbw8, uA, uB, hBK⟩ := HY.out
                    have hua : uA.length = NA := by
                      have h := hBK.A.len
                      have h2 := hBK.A.view (fun _ => rfl)
                      obtain ⟨oz, kz, ez, -⟩ := h2
                      simp only [Value.slice.injEq] at ez
                      rw [h, ← ez.2.1]
                    have hub : uB.length = k := by rw [hBK.B.len]; simp [plcsV]
                    have HUA := Lib.hid hua
                    have HUB := Lib.hid hub
                    have HBK := Lib.hid hBK
                    have HK1 := Lib.hid (hBK.below HB11.out)
                    have HB8A : Hid (Below w8.heap.size w8 w11) := bthen hbw8 HB11.out
                    clear hrv hb11 hfb htl hgsv hus hv0 hc0 hNA hbw8 hBK hua hub HGL
                    go_upto_region 41 with fail
                    go_wp2_with (at_builtin; refine wpList_appRowL rfl (.tmp 175) (.tmp 176) 31 rfl elemPlate Try.underlying31 w8.heap.size (.slice oA NA cA) uA encRp rfl HK1.out.A.op us11 ⟨b11, off11, none⟩ per c11 rfl HUS.out ?p0 HGV.out.flat (fun _ => rfl) encRp_one ?c1 ?c2 ?c3 ?_)
                    case p0 => omega
                    case c1 => have := HUA.out; omega
                    case c2 => have := HUA.out; unfold maxLen; omega
                    case c3 => exact HB8A.out.size
                    rw [HUA.out]
                    intro gA capA wA hownA hgrA hatA
                    have hatA' : (Value.slice (some ⟨gA, 0, none⟩) (NA + per) capA).ownBlock = (Value.slice oA NA cA).ownBlock ∨ (Value.slice (some ⟨gA, 0, none⟩) (NA + per) capA).ownBlock = some w11.heap.size := by
                      rcases hatA with e | e
                      · exact .inl e.symm
                      · exact .inr (by rw [e]; simp [Value.ownBlock])
                    have HK2 : Hid (BKS w8.heap.size wA (.slice (some ⟨gA, 0, none⟩) (NA + per) capA) (uA ++ us11) (((PLN.take k).flatten).map (pageI aN bN) ++ gs) (.slice oB k cB) uB (plcsV per k) (.slice oC k cC) ((List.range k).map fun (i : Nat) => (i : Int))) :=
                      HK1.out.extA HGV.out.len HGV.out.row (fun u hu g hg => ⟨HGV.out.lt u hu g hg, fun h => by
                        have h1 := HBK.out.lt h
                        have h2 := HFB.out u hu g hg
                        have h3 := HQ9.out
                        omega⟩) hownA hgrA hatA'
                    have HBA2 : Hid (Below w8.heap.size w8 (wA.alloc (.cells #[.slice oN per cN] 51))) := balloc (HB8A.out.grown hgrA HB8A.out.size (fun q hq => (HK1.out.A.op.blk hq).1)) _
                    have HK3 := Lib.hid (HK2.out.below (balloc (Below.refl _ wA) (.cells #[.slice oN per cN] 51)))
                    have hzA := hgrA.size
                    have HSC : Hid (SecC (wA.alloc (.cells #[.slice oN per cN] 51)) (.slice oN per cN) (plcV per k)) := stabC.keep HNS.out fun g hg => by
                      have h1 := HNG.out g hg
                      have h3 := HQ9.out
                      have e1 := HBQ11.out.block g h1.2
                      have e2 := hgrA.block g (by omega) (fun e => by have := HBK.out.lt (.inl (.inl e.symm)); omega)
                      have e3 := (balloc (Below.refl _ wA) (.cells #[.slice oN per cN] 51)).block g (by omega)
                      rw [e3, e2, e1]
                    have HGN : Hid (∀ g, blkV (.slice oN per cN) g → g < (wA.alloc (.cells #[.slice oN per cN] 51)).heap.size ∧ ¬ (InR (.slice (some ⟨gA, 0, none⟩) (NA + per) capA) (uA ++ us11) blkP g ∨ InR (.slice oB k cB) uB blkV g ∨ (Value.slice oC k cC).ownBlock = some g)) := fun g hg => by
                      have h1 := HNG.out g hg
                      have h3 := HQ9.out
                      refine ⟨by simp; omega, fun h => ?_⟩
                      rcases h with h | h | h
                      · rcases h.grow hatA' with h | h | ⟨u, hu, h⟩
                        · have := HBK.out.lt (.inl h); omega
                        · omega
                        · have := HFB.out u hu g h; omega
                      · have := HBK.out.lt (.inr (.inl h)); omega
                      · have := HBK.out.lt (.inr (.inr h)); omega
                    have HNEWB : Hid (∀ (j : Nat) (u : Value), (encV (.slice oN per cN))[j]? = some u → (wA.alloc (.cells #[.slice oN per cN] 51)).cell? ((⟨wA.heap.size, 0, none⟩ : Addr).add j) = some u) := World.news1 wA _ _
                    clear hownA hgrA hatA hatA' hzA HK1 HK2 HGV HUS HUA HB8A HFB HNS HNG HPX
                    go_wp2_with (at_builtin; refine wpList_app1L rfl (.tmp 178) (.tmp 180) 48 rfl elemSec Try.underlying48 w8.heap.size (.slice oB k cB) uB encV rfl HK3.out.B.op (.slice oN per cN) ⟨wA.heap.size, 0, none⟩ 1 rfl rfl HNEWB.out ?c1 ?c2 ?c3 ?c4 ?_)
                    case c1 => simp [encV, Value.oneCell']
                    case c2 => have := HUB.out; omega
                    case c3 => have := HUB.out; unfold maxLen; omega
                    case c4 => exact HBA2.out.size
                    rw [HUB.out]
                    intro gB capB wB hownB hgrB hatB
                    have HK4 : Hid (BKS w8.heap.size wB (.slice (some ⟨gA, 0, none⟩) (NA + per) capA) (uA ++ us11) (((PLN.take k).flatten).map (pageI aN bN) ++ gs) (.slice (some ⟨gB, 0, none⟩) (k + 1) capB) (uB ++ [.slice oN per cN]) (plcsV per k ++ [plcV per k]) (.slice oC k cC) ((List.range k).map fun (i : Nat) => (i : Int))) :=
                      HK3.out.extB HSC.out HGN.out hownB hgrB (by
                        rcases hatB with e | e
                        · exact .inl e.symm
                        · exact .inr (by rw [e]; simp [Value.ownBlock]))
                    have HBB2 : Hid (Below w8.heap.size w8 (wB.alloc (.cells #[.int .i64 k] 3))) := balloc (HBA2.out.grown hgrB HBA2.out.size (fun q hq => (HK3.out.B.op.blk hq).1)) _
                    have HK5 := Lib.hid (HK4.out.below (balloc (Below.refl _ wB) (.cells #[.int .i64 k] 3)))
                    have HNEWC : Hid (∀ (q : Nat) (u : Value), (encInt (k : Int))[q]? = some u → (wB.alloc (.cells #[.int .i64 k] 3)).cell? ((⟨wB.heap.size, 0, none⟩ : Addr).add q) = some u) := World.news_of_block (cs := #[.int .i64 k]) (t := 3) (fr := (0, 0)) (heap_alloc_new wB _)
                    clear hownB hgrB hatB HK3 HK4 HNEWB HSC HGN HUB HBA2
                    go_wp2_with (at_builtin; refine wpList_app1L rfl (.tmp 182) (.tmp 184) 51 rfl elemI64 Try.underlying51 w8.heap.size (.slice oC k cC) ((List.range k).map fun (i : Nat) => (i : Int)) encInt rfl HK5.out.C (k : Int) ⟨wB.heap.size, 0, none⟩ 1 rfl rfl HNEWC.out ?c1 ?c2 ?c3 ?c4 ?_)
                    case c1 => simp [encInt, Value.oneCell']
                    case c2 => rw [List.length_map, List.length_range]; omega
                    case c3 => rw [List.length_map, List.length_range]; unfold maxLen; omega
                    case c4 => exact HBB2.out.size
                    intro gC capC wC hownC hgrC hatC
                    have HE1 : Hid (((PLN.take (k + 1)).flatten).map (pageI aN bN) = ((PLN.take k).flatten).map (pageI aN bN) ++ gs) := by
                      show _ = _
                      rw [HTK.out, List.flatten_append, List.map_append, HGS.out, List.flatten_cons, List.flatten_nil, List.append_nil]
                    have HE2 : Hid (plcsV per (k + 1) = plcsV per k ++ [plcV per k]) := plcs_snoc per k
                    have HE3 : Hid (((List.range (k + 1)).map fun (i : Nat) => (i : Int)) = ((List.range k).map fun (i : Nat) => (i : Int)) ++ [(k : Int)]) := range_snoc k
                    have HK6 : Hid (BKS w8.heap.size wC (.slice (some ⟨gA, 0, none⟩) (NA + per) capA) (uA ++ us11) (((PLN.take k).flatten).map (pageI aN bN) ++ gs) (.slice (some ⟨gB, 0, none⟩) (k + 1) capB) (uB ++ [.slice oN per cN]) (plcsV per k ++ [plcV per k]) (.slice (some ⟨gC, 0, none⟩) (k + 1) capC) (((List.range k).map fun (i : Nat) => (i : Int)) ++ [(k : Int)])) :=
                      HK5.out.extC hownC hgrC (by
                        rcases hatC with e | e
                        · exact .inl e.symm
                        · exact .inr (by rw [e]; simp [Value.ownBlock]))
                    have HBC : Hid (Below w8.heap.size w8 wC) := HBB2.out.grown hgrC HBB2.out.size (fun q hq => (Own.blk HK5.out.C hq).1)
                    have HNX : Hid (NA + per = (k + 1) * per ∧ Below w8.heap.size w8 wC ∧ ∃ uA uB, BKS w8.heap.size wC (.slice (some ⟨gA, 0, none⟩) (NA + per) capA) uA (((PLN.take (k + 1)).flatten).map (pageI aN bN)) (.slice (some ⟨gB, 0, none⟩) (k + 1) capB) uB (plcsV per (k + 1)) (.slice (some ⟨gC, 0, none⟩) (k + 1) capC) ((List.range (k + 1)).map fun (i : Nat) => (i : Int))) := by
                      rw [HE1.out, HE2.out, HE3.out]
                      exact ⟨by rw [Nat.succ_mul, ← HY.out.1], HBC.out, uA ++ us11, uB ++ [.slice oN per cN], HK6.out⟩
                    clear hownC hgrC hatC HK5 HNEWC HBB2 HBK HY
                    go_wp2_with fail
                    go_roundw
                    case rel => exact ⟨k + 1, by omega, by go_num, _, _, _, _, _, _, _, rfl, rfl, rfl, HNX⟩
                    case measure => simp [intOf]; omega
            · obtain rfl : many = k := by omega
              obtain ⟨hNA, hbw, uA, uB, hBK⟩ := HY.out
              have hfl : PLN.take many = PLN := List.take_of_length_le (by rw [HPLL.out]; exact Nat.le_refl _)
              rw [hfl] at hBK
              have hrl := read_law nN per many ne hp64.1 (by have := HPB.out; omega)
              obtain ⟨R, hR⟩ : ∃ q, q = readV ne (plcsV per many) (List.range many) := ⟨_, rfl⟩
              rw [← hR, ← hNA, ← HPQ.out] at hrl
              have hpl : (plcsV per many).length = many := by unfold plcsV; rw [List.length_map, List.length_range]
              have HBRD : Hid (Calls Try.prog 17 #[.slice oB many cB, .slice oC many cC, .int .i64 sv] wa (fun e w' => ∃ o c, e = .returned (.tuple #[.slice o NA c, .int .i64 0]) ∧ IsSlice w' 1 encInt (.slice o NA c) R ∧ Below wa.heap.size wa w')) := by
                obtain ⟨oz, kz, ez, -, -, hv⟩ := hBK.B.view (fun _ => rfl)
                simp only [Value.slice.injEq] at ez
                obtain ⟨rfl, -, rfl⟩ := ez
                have hsl := Own.isSlice hBK.C (fun _ => rfl)
                have h := bread_any ne sv HSV.out (plcsV per many) (List.range many) (by omega) (by rw [List.length_range]; omega) (fun k hk => by rw [hpl]; exact List.mem_range.1 hk) (fun s hs => by
                  unfold plcsV at hs
                  obtain ⟨i, -, rfl⟩ := List.mem_map.1 hs
                  rw [plc_len]
                  have := HPB.out
                  omega) oB oC cB cC uB wa hv (by rw [List.length_range]; exact hsl)
                rw [hpl, List.length_range] at h
                refine h.mono ?_
                rintro e w' ⟨o, c, he, hi, hb⟩
                rw [← hR] at he hi
                rw [hrl.1] at he hi
                exact ⟨o, c, he, hi, hb⟩
              have HRL := Lib.hid hrl
              have HBK := Lib.hid hBK
              have HBW : Hid (Below W4.heap.size W4 wa) := bthen HB8.out hbw
              clear hNA hbw hBK hfl hrl hR hpl hlt hk
              go_wp2_with fail
              refine HBRD.out.mono ?_
              rintro e w9 ⟨o9, c9, rfl, hsl9, hb9⟩
              have HSL9 := Lib.hid hsl9
              have HB9 := Lib.hid hb9
              clear hsl9 hb9 HBRD
              go_upto_region 46 with fail
              go_wp2_with fail
              go_loopw [205] (fun i wr => ∃ q : Nat, q ≤ NA ∧ i = .int .i64 q ∧ Hid (Below w9.heap.size w9 wr)) (fun i _ => NA - (intOf i).toNat)
              case atStart => exact ⟨0, by omega, rfl, Below.refl _ _⟩
              case round =>
                obtain ⟨q, hq, rfl, HX⟩ := hrel
                obtain ⟨wb, rfl⟩ : ∃ wb : World, wb = wr := ⟨_, rfl⟩
                by_cases hlq : q < NA
                · have kq : (q : Int) < (NA : Int) := by omega
                  have hNB : NA ≤ 3 * 64 := by rw [HY.out.1]; exact Nat.mul_le_mul hmb.2 hp64.2
                  have xq : IntKind.i64.wrap ((q : Int) + 1) = (q : Int) + 1 := IntWalk.i64_in _ (by omega)
                  obtain ⟨n, hn, hRn, hpn⟩ := HRL.out.2 q hlq
                  have hql : q < R.length := by rw [HRL.out.1]; exact hlq
                  obtain ⟨b4, off4, rfl, hcq⟩ := IsSlice.getI (HSL9.out.below HX.out) (k := q) hql
                  have hRq : R[q] = (n : Int) := by
                    rw [List.getElem?_eq_getElem hql] at hRn
                    exact Option.some.inj hRn
                  rw [hRq] at hcq
                  have hbE : Below w8.heap.size w8 wb := bthen HY.out.2.1 (bthen HB9.out HX.out)
                  have htE := HE.out.tab.below hbE HZ8.out.2
                  have e0 : wb.cell? ⟨gE, 0, none⟩ = some (.int .i64 L.w) := htE.at' 0 (by omega)
                  have e1 : wb.cell? ⟨gE, 1, none⟩ = some (.int .i64 L.h) := htE.at' 1 (by omega)
                  have e2 : wb.cell? ⟨gE, 2, none⟩ = some (.slice oE nE nE) := htE.at' 2 (by omega)
                  obtain ⟨wd, hwd⟩ : ∃ W, W = wb.alloc (.cells #[.int .i64 L.w, .int .i64 L.h, .slice oE nE nE] 37) := ⟨_, rfl⟩
                  have hbd : Below wb.heap.size wb wd := by rw [hwd]; exact balloc (Below.refl _ wb) _
                  have ht33 : FTab (fun v : Value => v) wd wb.heap.size 3 (outF (.int .i64 L.w) (.int .i64 L.h) (.slice oE nE nE)) := by rw [hwd]; exact outF_new wb _ _ _ _
                  have hz33 : wb.heap.size < wd.heap.size := by rw [hwd]; simp
                  have HWD := Lib.hid hwd
                  have HBD := Lib.hid hbd
                  have HT33 := Lib.hid ht33
                  have HZ33 := Lib.hid hz33
                  have HPXE := Lib.hid (HE.out.px.below (bthen hbE hbd))
                  have HN := Lib.hid hn
                  have HPN := Lib.hid hpn
                  clear hbE htE hwd hbd ht33 hz33 hRn hRq hql hpn
                  go_upto_region 50 with fail
                  rw [← HWD.out]
                  clear HWD
                  go_upto_if 213 with fail
                  obtain ⟨PG, hPG⟩ : ∃ G, G = pageI aN bN (pgAt nN q) := ⟨_, rfl⟩
                  obtain ⟨nG, hnG⟩ : ∃ k, k = (listI PG).length := ⟨_, rfl⟩
                  have HPG := Lib.hid (And.intro hPG hnG)
                  clear hPG hnG
                  go_cut [33] from 213 to 220 (fun s33 wx => s33 = .pointer (some ⟨wb.heap.size, 0, none⟩) ∧ Hid (∃ o' c', wx.cell? ⟨wb.heap.size, 0, none⟩ = some (.int .i64 L.w) ∧ wx.cell? ⟨wb.heap.size, 1, none⟩ = some (.int .i64 L.h) ∧ wx.cell? ⟨wb.heap.size, 2, none⟩ = some (.slice o' nG c') ∧ PxAt wx o' nG c' (listI PG) ∧ Below wb.heap.size wb wx))
                  case first =>
                    by_cases hqn : q < nN
                    · have kqn : (q : Int) < (nN : Int) := by omega
                      have hpe : PG = dotsI aN bN ((q : Int) + 1) := by
                        rw [HPG.out.1]
                        unfold pgAt pageI
                        rw [if_pos hqn, if_neg (by omega)]
                      have hq1 : 0 ≤ (q : Int) + 1 ∧ (q : Int) + 1 ≤ 1000 := by omega
                      have HDW := Lib.hid (HDT.out wd ((q : Int) + 1) hq1)
                      have HPE := Lib.hid hpe
                      obtain ⟨c0, c1, c2, c3, c4, c5, c6, c7, c8, c9, c10⟩ := HCL.out wd (bthen HBW.out (bthen HB9.out (bthen HX.out HBD.out)))
                      clear hpe hq1
                      go_wp2_with fail
                      refine HDW.out.mono ?_
                      rintro e w6 ⟨o6, n6, k6, rfl, hn6, hown6, hb6⟩
                      have ht6 := HT33.out.below hb6 HZ33.out
                      have f0 : w6.cell? ⟨wb.heap.size, 0, none⟩ = some (.int .i64 L.w) := ht6.at' 0 (by omega)
                      have f1 : w6.cell? ⟨wb.heap.size, 1, none⟩ = some (.int .i64 L.h) := ht6.at' 1 (by omega)
                      have f2 : w6.cell? ⟨wb.heap.size, 2, none⟩ = some (.slice oE nE nE) := ht6.at' 2 (by omega)
                      have fz := ht6.fz
                      obtain ⟨R0, R1, R2, R3, R4, R5⟩ := res_set (x := .int .i64 L.w) (y := .int .i64 L.h) (z := .slice o6 n6 k6) ht6
                      have hn7 : n6 = nG := by rw [hn6, ← HPE.out]; exact HPG.out.2.symm
                      have HPX6 : Hid (PxAt (resW w6 wb.heap.size (.int .i64 L.w) (.int .i64 L.h) (.slice o6 n6 k6)) o6 n6 k6 (listI PG)) := by
                        rw [HPE.out]
                        exact px_heap (OwnPx.at hown6) fun g hg => R0 g (fun e => by have h := (hown6.blk hg).1; have := HZ33.out; omega)
                      have HRR : Hid (∃ o' c', (resW w6 wb.heap.size (.int .i64 L.w) (.int .i64 L.h) (.slice o6 n6 k6)).cell? ⟨wb.heap.size, 0, none⟩ = some (.int .i64 L.w) ∧ (resW w6 wb.heap.size (.int .i64 L.w) (.int .i64 L.h) (.slice o6 n6 k6)).cell? ⟨wb.heap.size, 1, none⟩ = some (.int .i64 L.h) ∧ (resW w6 wb.heap.size (.int .i64 L.w) (.int .i64 L.h) (.slice o6 n6 k6)).cell? ⟨wb.heap.size, 2, none⟩ = some (.slice o' nG c') ∧ PxAt (resW w6 wb.heap.size (.int .i64 L.w) (.int .i64 L.h) (.slice o6 n6 k6)) o' nG c' (listI PG) ∧ Below wb.heap.size wb (resW w6 wb.heap.size (.int .i64 L.w) (.int .i64 L.h) (.slice o6 n6 k6))) :=
                        ⟨o6, k6, R3, R4, by rw [← hn7]; exact R5, by rw [← hn7]; exact HPX6.out, R2 (bthen HBD.out hb6) (Nat.le_refl _)⟩
                      unfold resW at HRR
                      clear HPX6 R0 R1 R2 R3 R4 R5 hn7 hown6 hn6 ht6 hb6 HDW
                      go_wp2_with fail
                      go_meet
                      exact ⟨rfl, HRR⟩
                    · have kqn : ¬ (q : Int) < (nN : Int) := by omega
                      have hpe : PG = fillI aN bN 0 := by
                        rw [HPG.out.1]
                        unfold pgAt pageI
                        rw [if_neg hqn, if_pos rfl]
                      have hne : nE = nG := by rw [HPG.out.2, hpe, HNE2.out]; exact (pixL_len _ _ _).symm
                      have HRR : Hid (∃ o' c', wd.cell? ⟨wb.heap.size, 0, none⟩ = some (.int .i64 L.w) ∧ wd.cell? ⟨wb.heap.size, 1, none⟩ = some (.int .i64 L.h) ∧ wd.cell? ⟨wb.heap.size, 2, none⟩ = some (.slice o' nG c') ∧ PxAt wd o' nG c' (listI PG) ∧ Below wb.heap.size wb wd) :=
                        ⟨oE, nE, HT33.out.at' 0 (by omega), HT33.out.at' 1 (by omega), by rw [← hne]; exact HT33.out.at' 2 (by omega), by rw [← hne, hpe]; exact HPXE.out, HBD.out⟩
                      clear hpe hne
                      go_wp2_with fail
                      go_meet
                      exact ⟨rfl, HRR⟩
                  case rest =>
                    obtain ⟨rfl, HQ⟩ := hcut
                    obtain ⟨wg, rfl⟩ : ∃ q, q = wc := ⟨_, rfl⟩
                    obtain ⟨o', c', d0, d1, d2, hpx, hbg⟩ := HQ.out
                    obtain ⟨oz, kz, ez, -, -, hv⟩ := HBK.out.A.view (fun _ => rfl)
                    simp only [Value.slice.injEq] at ez
                    obtain ⟨rfl, -, rfl⟩ := ez
                    have hpl := (PlAt.ofRows hv).below (bthen HB9.out (bthen HX.out hbg))
                    have hgn : ((PLN.flatten).map (pageI aN bN))[n]? = some PG := by rw [List.getElem?_map, HPN.out, HPG.out.1]; rfl
                    have hnl : n < ((PLN.flatten).map (pageI aN bN)).length := (List.getElem?_eq_some_iff.1 hgn).1
                    have hge : ((PLN.flatten).map (pageI aN bN))[n] = PG := (List.getElem?_eq_some_iff.1 hgn).2
                    obtain ⟨b5, off5, o5, c5, rfl, a0, a1, a2, -, p5⟩ := hpl n hnl
                    rw [hge] at a0 a1 a2 p5
                    rw [← HPG.out.2] at a2 p5
                    have hps := page_size aN bN (pgAt nN q)
                    rw [← HPG.out.1] at hps
                    have hab := HAB.out
                    have hW : L.w = (PG.W : Int) := by rw [hps.1]; exact hab.1.symm
                    have hH : L.h = (PG.H : Int) := by rw [hps.2]; exact hab.2.symm
                    rw [hW] at d0
                    rw [hH] at d1
                    have hsz : Sized PG := by
                      show 1 ≤ PG.W ∧ PG.W ≤ _ ∧ 1 ≤ PG.H ∧ PG.H ≤ _
                      omega
                    have HEQ : Hid (∀ W, Below wg.heap.size wg W → Calls Try.prog 13 #[.agg #[.int .i64 PG.W, .int .i64 PG.H, .slice o5 nG c5], .agg #[.int .i64 PG.W, .int .i64 PG.H, .slice o' nG c']] W fun e w' => e = .returned (.bool true) ∧ Below W.heap.size W w') := fun W hb => by
                      have h := mequal_any PG hsz o5 o' c5 c' W (by rw [← HPG.out.2]; exact p5.below hb) (by rw [← HPG.out.2]; exact hpx.below hb)
                      rw [← HPG.out.2] at h
                      exact h
                    have HS : Hid (∀ W, Below wg.heap.size wg W → Below wg.heap.size wg W ∧ W.cell? ⟨b5, off5 + n * 3, none⟩ = some (.int .i64 PG.W) ∧ W.cell? ⟨b5, off5 + n * 3 + 1, none⟩ = some (.int .i64 PG.H) ∧ W.cell? ⟨b5, off5 + n * 3 + 2, none⟩ = some (.slice o5 nG c5) ∧ W.cell? ⟨wb.heap.size, 0, none⟩ = some (.int .i64 PG.W) ∧ W.cell? ⟨wb.heap.size, 1, none⟩ = some (.int .i64 PG.H) ∧ W.cell? ⟨wb.heap.size, 2, none⟩ = some (.slice o' nG c')) := fun W hb => ⟨hb, keepCell hb a0, keepCell hb a1, keepCell hb a2, keepCell hb d0, keepCell hb d1, keepCell hb d2⟩
                    have HBG : Hid (Below w9.heap.size w9 wg) := bthen HX.out hbg
                    have hn0 : ¬ (n : Int) < 0 := by omega
                    have hnA : n < NA := HN.out
                    have hnA2 : (n : Int) < (NA : Int) := by omega
                    have hnA3 : ¬ (n : Int) ≥ (NA : Int) := by omega
                    clear hsz hW hH hps hab hgn hnl hge hpl hv hpx hbg p5 a0 a1 a2 d0 d1 d2 e0 e1 e2 hcq HQ HX
                    go_upto_region 52 with fail
                    go_region_held3 (fun W => Below wg.heap.size wg W ∧ W.cell? ⟨b5, off5 + n * 3, none⟩ = some (.int .i64 PG.W) ∧ W.cell? ⟨b5, off5 + n * 3 + 1, none⟩ = some (.int .i64 PG.H) ∧ W.cell? ⟨b5, off5 + n * 3 + 2, none⟩ = some (.slice o5 nG c5) ∧ W.cell? ⟨wb.heap.size, 0, none⟩ = some (.int .i64 PG.W) ∧ W.cell? ⟨wb.heap.size, 1, none⟩ = some (.int .i64 PG.H) ∧ W.cell? ⟨wb.heap.size, 2, none⟩ = some (.slice o' nG c'))
                      (first | (refine HS.out _ ?_; (first | assumption | exact (Below.refl _ wg).drew | go_grown)))
                      (first | fail | (go_simp; go_at_call 13; (with_reducible refine (HEQ.out _ (And.left (by assumption))).mono ?_); rintro e wx ⟨rfl, hbx⟩; have hzx : Below wg.heap.size wg wx := bthen (And.left (by assumption)) hbx; clear hbx))
                    all_goals
                      have HNX := Lib.hid (bthen HBG.out hzx)
                      clear HS HEQ hzx
                      go_wp2_with fail
                      go_roundw
                      case rel => exact ⟨q + 1, by omega, by go_num, HNX⟩
                      case measure => simp [intOf]; omega
                · obtain rfl : NA = q := by omega
                  have HF : Hid (Below w.heap.size w wb) := HB4.out.trans ((bthen HBW.out (bthen HB9.out HX.out)).mono HB4.out.size)
                  clear HX hlq hq
                  go_wp2_with fail
                  go_ret
                  exact ⟨rfl, HF.out⟩
  · have hne : (c != 0) = true := by simpa using hc
    have HF := Lib.hid (HB4.out.trans (hb5.mono HB4.out.size))
    clear hc hiff hb5
    go_wp2_with fail
    go_ret
    exact ⟨rfl, HF.out⟩
end Go.Proofs.Ytdblibjmgamjeaa
