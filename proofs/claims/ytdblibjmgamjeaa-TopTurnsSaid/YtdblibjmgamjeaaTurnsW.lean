/-
  The walk of TopTurns. Printed by gen_turns.py. Own text.
-/
import Derived.Test.YtdblibjmgamjeaaTurnsR
import Derived.Test.YtdblibjmgamjeaaIpl
import Derived.Test.YtdblibjmgamjeaaCut2
import Derived.Test.YtdblibjmgamjeaaConcatBs
import Derived.Test.YtdblibjmgamjeaaBinds
import Derived.Test.YtdblibjmgamjeaaDots
import Derived.Test.YtdblibjmgamjeaaEq8
namespace Go.Proofs.Ytdblibjmgamjeaa
open Go.RowKit
set_option linter.unusedVariables false
set_option maxRecDepth 100000 in
set_option maxHeartbeats 32000000 in
theorem topTurns_any (l : Lay) (os : Option Addr) (cs : Nat) (many : Int) (w : World) (hs : StpAt w l os cs) :
    Calls Try.prog 3 #[layV l os l.sc.steps.length cs, .int .i64 many] w fun e w' => e = .returned (.bool true) ∧ Below w.heap.size w w' := by
  obtain ⟨L, hL⟩ : ∃ L, L = smallV l := ⟨_, rfl⟩
  have hsc : L.sc = l.sc := by rw [hL]; rfl
  have hLw : 1 ≤ L.w ∧ L.w ≤ 5 := by rw [hL]; exact mcV_bd (by decide)
  have hLh : 1 ≤ L.h ∧ L.h ≤ 5 := by rw [hL]; exact mcV_bd (by decide)
  obtain ⟨m, hm⟩ : ∃ m, m = l.sc.steps.length := ⟨_, rfl⟩
  have HML : Hid (L.sc.steps.length = m) := by show _ = _; rw [hsc]; exact hm.symm
  have HST : Hid (∀ W s, Below w.heap.size w W → StpAt W (st L s) os cs) := fun W s hb => by
    have h := hs.below hb
    exact ⟨by show Flat W 3 encStp os L.sc.steps; rw [hsc]; exact h.f, by show L.sc.steps.length ≤ _; rw [hsc]; exact h.m, by show L.sc.steps.length ≤ _; rw [hsc]; exact h.c⟩
  have HBI : Hid (∀ W, Calls Try.prog 5 #[] W fun e w' => e = .returned (.bool true) ∧ Below W.heap.size W w') := binds_any
  have HSM : Hid (∀ W, Calls Try.prog 6 #[layV l os m cs] W fun e w' => e = .returned (.agg #[.int .i64 L.sc.cols, .int .i64 L.sc.rows, .slice os m cs, .int .i64 L.w, .int .i64 L.h, .int .i64 L.head, .int .i64 L.fore, .int .i64 L.spine, .int .i64 L.margin, .int .i64 L.creep, .int .i64 L.style]) ∧ Below W.heap.size W w') := fun W => by
    have h := small_any l os m cs W
    rw [← hL] at h
    exact h
  rw [← hm]
  obtain ⟨W1, hW1⟩ : ∃ W1, W1 = w.alloc (layO l os m cs) := ⟨_, rfl⟩
  have hb1 : Below w.heap.size w W1 := by rw [hW1]; exact balloc (Below.refl _ w) _
  have hz1 : W1.heap.size = w.heap.size + 1 := by rw [hW1]; simp
  have ht1 : FTab (fun v : Value => v) W1 w.heap.size 11 (layF l os m cs) := by rw [hW1]; exact layF_new w l os m cs _
  have HW1 : Hid (w.alloc (layO l os m cs) = W1) := hW1.symm
  unfold layO at HW1
  have HB1 := Lib.hid hb1
  have HZ1 := Lib.hid hz1
  have HT1 := Lib.hid ht1
  clear hW1 hb1 hz1 ht1 hs hm hsc hL
  go_enter Try.func3, Try.ntmps3
  go_upto_region 1 with fail
  rw [HW1.out]
  clear HW1
  go_wp2_with fail
  refine (HBI.out W1).mono ?_
  rintro e w2 ⟨rfl, hb2⟩
  have ht2 := HT1.out.below hb2 (by rw [HZ1.out]; omega)
  have c0 : w2.cell? ⟨w.heap.size, 0, none⟩ = some (.int .i64 l.sc.cols) := ht2.at' 0 (by omega)
  have c1 : w2.cell? ⟨w.heap.size, 1, none⟩ = some (.int .i64 l.sc.rows) := ht2.at' 1 (by omega)
  have c2 : w2.cell? ⟨w.heap.size, 2, none⟩ = some (.slice os m cs) := ht2.at' 2 (by omega)
  have c3 : w2.cell? ⟨w.heap.size, 3, none⟩ = some (.int .i64 l.w) := ht2.at' 3 (by omega)
  have c4 : w2.cell? ⟨w.heap.size, 4, none⟩ = some (.int .i64 l.h) := ht2.at' 4 (by omega)
  have c5 : w2.cell? ⟨w.heap.size, 5, none⟩ = some (.int .i64 l.head) := ht2.at' 5 (by omega)
  have c6 : w2.cell? ⟨w.heap.size, 6, none⟩ = some (.int .i64 l.fore) := ht2.at' 6 (by omega)
  have c7 : w2.cell? ⟨w.heap.size, 7, none⟩ = some (.int .i64 l.spine) := ht2.at' 7 (by omega)
  have c8 : w2.cell? ⟨w.heap.size, 8, none⟩ = some (.int .i64 l.margin) := ht2.at' 8 (by omega)
  have c9 : w2.cell? ⟨w.heap.size, 9, none⟩ = some (.int .i64 l.creep) := ht2.at' 9 (by omega)
  have c10 : w2.cell? ⟨w.heap.size, 10, none⟩ = some (.int .i64 l.style) := ht2.at' 10 (by omega)
  have HSM2 := Lib.hid (HSM.out w2)
  have HB2 := Lib.hid (bthen HB1.out hb2)
  have HT2 := Lib.hid ht2
  have HZ2 : Hid (w.heap.size < w2.heap.size) := by have := hb2.size; have := HZ1.out; show _ < _; omega
  clear hb2 ht2 HSM HBI
  go_wp2_with fail
  refine HSM2.out.mono ?_
  rintro e w3 ⟨rfl, hb3⟩
  clear c0 c1 c2 c3 c4 c5 c6 c7 c8 c9 c10
  have ht3 := HT2.out.below hb3 HZ2.out
  have c0 : w3.cell? ⟨w.heap.size, 0, none⟩ = some (.int .i64 l.sc.cols) := ht3.at' 0 (by omega)
  have c1 : w3.cell? ⟨w.heap.size, 1, none⟩ = some (.int .i64 l.sc.rows) := ht3.at' 1 (by omega)
  have c2 : w3.cell? ⟨w.heap.size, 2, none⟩ = some (.slice os m cs) := ht3.at' 2 (by omega)
  have c3 : w3.cell? ⟨w.heap.size, 3, none⟩ = some (.int .i64 l.w) := ht3.at' 3 (by omega)
  have c4 : w3.cell? ⟨w.heap.size, 4, none⟩ = some (.int .i64 l.h) := ht3.at' 4 (by omega)
  have c5 : w3.cell? ⟨w.heap.size, 5, none⟩ = some (.int .i64 l.head) := ht3.at' 5 (by omega)
  have c6 : w3.cell? ⟨w.heap.size, 6, none⟩ = some (.int .i64 l.fore) := ht3.at' 6 (by omega)
  have c7 : w3.cell? ⟨w.heap.size, 7, none⟩ = some (.int .i64 l.spine) := ht3.at' 7 (by omega)
  have c8 : w3.cell? ⟨w.heap.size, 8, none⟩ = some (.int .i64 l.margin) := ht3.at' 8 (by omega)
  have c9 : w3.cell? ⟨w.heap.size, 9, none⟩ = some (.int .i64 l.creep) := ht3.at' 9 (by omega)
  have c10 : w3.cell? ⟨w.heap.size, 10, none⟩ = some (.int .i64 l.style) := ht3.at' 10 (by omega)
  have cf := ht3.fz
  have hs4 := setLay_at ht3 (layF L os m cs)
  obtain ⟨W4, hW4⟩ : ∃ W4, W4 = setLay w3 w.heap.size (layF L os m cs) := ⟨_, rfl⟩
  rw [← hW4] at hs4
  have HW4 : Hid (((((((((((w3.setCell ⟨w.heap.size, 0, none⟩ (.int .i64 L.sc.cols)).setCell ⟨w.heap.size, 1, none⟩ (.int .i64 L.sc.rows)).setCell ⟨w.heap.size, 2, none⟩ (.slice os m cs)).setCell ⟨w.heap.size, 3, none⟩ (.int .i64 L.w)).setCell ⟨w.heap.size, 4, none⟩ (.int .i64 L.h)).setCell ⟨w.heap.size, 5, none⟩ (.int .i64 L.head)).setCell ⟨w.heap.size, 6, none⟩ (.int .i64 L.fore)).setCell ⟨w.heap.size, 7, none⟩ (.int .i64 L.spine)).setCell ⟨w.heap.size, 8, none⟩ (.int .i64 L.margin)).setCell ⟨w.heap.size, 9, none⟩ (.int .i64 L.creep)).setCell ⟨w.heap.size, 10, none⟩ (.int .i64 L.style) = W4) := hW4.symm
  have hb4 : Below w.heap.size w W4 := hs4.2 (bthen HB2.out hb3) (Nat.le_refl _)
  have ht4 := hs4.1
  have hz4 : w.heap.size < W4.heap.size := cell?_lt (ht4.at' 0 (by omega))
  have HT4 := Lib.hid ht4
  have HB4 := Lib.hid hb4
  have HZ4 := Lib.hid hz4
  clear hs4 hW4 hb4 ht4 ht3 hb3 hz4
  have hsz4 : W4.heap.size = w3.heap.size := by rw [← HW4.out]; simp
  obtain ⟨b5, hb5⟩ : ∃ b, b = W4.heap.size := ⟨_, rfl⟩
  have hb5' : b5 = w3.heap.size := hb5.trans hsz4
  dsimp only
  go_upto_region 4 with fail
  rw [HW4.out]
  clear HW4 cf c0 c1 c2 c3 c4 c5 c6 c7 c8 c9 c10 hb5' hsz4
  obtain ⟨W5, hW5⟩ : ∃ W5, W5 = W4.alloc (.cells #[.slice none 0 0, .slice none 0 0, .slice none 0 0] 30) := ⟨_, rfl⟩
  have HTR5 : Hid (∃ v0 v1 v2, TR w W5 b5 L os m cs (.slice none 0 0) v0 v1 v2 ∧ TD (b5 + 1) L W5 (.slice none 0 0) v0 v1 v2 0) := by
    refine ⟨.slice none 0 0, .slice none 0 0, .slice none 0 0, ⟨?_, ⟨L.style, ?_⟩, ?_, ?_⟩, rfl, rfl, rfl, rfl⟩
    · rw [hW5]; exact balloc HB4.out _
    · rw [hW5]; exact HT4.out.alloc HZ4.out _
    · rw [hW5, hb5]; exact outF_new W4 _ _ _ _
    · rw [hW5, hb5]; exact ⟨HZ4.out, by simp⟩
  have HW5 := Lib.hid hW5.symm
  clear hW5 HT4 HB4 HT1 HT2 HB1 HB2 HZ2
  go_upto_region 5 with fail
  rw [HW5.out]
  clear HW5
  rw [← hb5]
  clear hb5
  go_wp2_with fail
  go_loopw [6, 22] (fun v6 i wr => ∃ k : Nat, k ≤ 3 ∧ i = .int .i64 k ∧ Hid (∃ v0 v1 v2, TR w wr b5 L os m cs v6 v0 v1 v2 ∧ TD (b5 + 1) L wr v6 v0 v1 v2 k)) (fun _ i _ => 3 - (intOf i).toNat)
  case atStart => exact ⟨0, by omega, rfl, HTR5.out⟩
  case round =>
    clear HTR5
    obtain ⟨k, hk, rfl, HY⟩ := hrel
    obtain ⟨wa, rfl⟩ : ∃ wa : World, wa = wr := ⟨_, rfl⟩
    obtain ⟨v0, v1, v2, ht, hd⟩ := HY.out
    clear HY
    have h4 : k = 0 ∨ k = 1 ∨ k = 2 ∨ k = 3 := by omega
    clear hk
    rcases h4 with rfl | rfl | rfl | rfl
    · obtain ⟨rfl, rfl, rfl, rfl⟩ := hd
      obtain ⟨sy, hty⟩ := ht.tab
      have c10 : wa.cell? ⟨w.heap.size, 10, none⟩ = some (.int .i64 sy) := hty.at' 10 (by omega)
      have cf := hty.fz 10
      obtain ⟨wb, hwb⟩ : ∃ wb, wb = wa.setCell ⟨w.heap.size, 10, none⟩ (.int .i64 0) := ⟨_, rfl⟩
      have htb : FTab (fun v : Value => v) wb w.heap.size 11 (layF (st L 0) os m cs) := by
        rw [hwb]
        exact (hty.set (i := 10) (by omega) (.int .i64 0)).congr (layF_congr rfl rfl rfl rfl rfl rfl rfl rfl rfl rfl rfl)
      have hlt := ht.lt
      have hab : FTab (fun v : Value => v) wb b5 3 (outF (.slice none 0 0) (.slice none 0 0) (.slice none 0 0)) := by rw [hwb]; exact ht.arr.other (b := w.heap.size) (by omega) _
      have hbb : Below w.heap.size w wb := by rw [hwb]; exact ht.bel.setCell (p := ⟨w.heap.size, 10, none⟩) (Nat.le_refl _) _
      have hlb : w.heap.size < b5 ∧ b5 < wb.heap.size := by rw [hwb]; exact ⟨hlt.1, by simp; exact hlt.2⟩
      have hhz : HighZ (b5 + 1) wa wb := by rw [hwb]; exact HighZ.setCell wa (by omega) _
      have HWB := Lib.hid hwb
      have HTBb := Lib.hid htb
      have HAB := Lib.hid hab
      have HBB := Lib.hid hbb
      have HLB := Lib.hid hlb
      clear hwb htb hab hbb hlb hhz hty ht hlt
      go_upto_region 10 with fail
      rw [← HWB.out]
      clear HWB c10 cf
      have c0 : wb.cell? ⟨w.heap.size, 0, none⟩ = some (.int .i64 L.sc.cols) := HTBb.out.at' 0 (by omega)
      have c1 : wb.cell? ⟨w.heap.size, 1, none⟩ = some (.int .i64 L.sc.rows) := HTBb.out.at' 1 (by omega)
      have c2 : wb.cell? ⟨w.heap.size, 2, none⟩ = some (.slice os m cs) := HTBb.out.at' 2 (by omega)
      have c3 : wb.cell? ⟨w.heap.size, 3, none⟩ = some (.int .i64 L.w) := HTBb.out.at' 3 (by omega)
      have c4 : wb.cell? ⟨w.heap.size, 4, none⟩ = some (.int .i64 L.h) := HTBb.out.at' 4 (by omega)
      have c5 : wb.cell? ⟨w.heap.size, 5, none⟩ = some (.int .i64 L.head) := HTBb.out.at' 5 (by omega)
      have c6 : wb.cell? ⟨w.heap.size, 6, none⟩ = some (.int .i64 L.fore) := HTBb.out.at' 6 (by omega)
      have c7 : wb.cell? ⟨w.heap.size, 7, none⟩ = some (.int .i64 L.spine) := HTBb.out.at' 7 (by omega)
      have c8 : wb.cell? ⟨w.heap.size, 8, none⟩ = some (.int .i64 L.margin) := HTBb.out.at' 8 (by omega)
      have c9 : wb.cell? ⟨w.heap.size, 9, none⟩ = some (.int .i64 L.creep) := HTBb.out.at' 9 (by omega)
      have c10 : wb.cell? ⟨w.heap.size, 10, none⟩ = some (.int .i64 0) := HTBb.out.at' 10 (by omega)
      have HCK : Hid (Calls Try.prog 7 #[.agg #[.int .i64 L.sc.cols, .int .i64 L.sc.rows, .slice os m cs, .int .i64 L.w, .int .i64 L.h, .int .i64 L.head, .int .i64 L.fore, .int .i64 L.spine, .int .i64 L.margin, .int .i64 L.creep, .int .i64 0]] wb (RetCode (GoodL (st L 0)) wb)) := by
        have h := icheck_any (st L 0) os cs wb (HST.out wb 0 HBB.out)
        have e1 : (st L 0).sc.steps.length = m := HML.out
        rw [e1] at h
        exact h
      go_wp2_with fail
      refine HCK.out.mono ?_
      intro e w2 hret
      obtain ⟨c, rfl, hiff, hb2⟩ := hret
      clear c0 c1 c2 c3 c4 c5 c6 c7 c8 c9 c10 HCK
      by_cases hc : c = 0
      · subst hc
        obtain ⟨x', hx'⟩ := hiff.1 rfl
        obtain ⟨x, rfl⟩ : ∃ x, x = x' := ⟨_, rfl⟩
        have HG0 := Lib.hid hx'
        have HGS := Lib.hid hx'
        have HBT2 := Lib.hid (HBB.out.trans (hb2.mono HBB.out.size))
        have HTB2 := Lib.hid (HTBb.out.below hb2 (by have := HLB.out; omega))
        have HARR2 := Lib.hid (HAB.out.below hb2 HLB.out.2)
        have HLT2 : Hid (w.heap.size < b5 ∧ b5 < w2.heap.size) := ⟨HLB.out.1, by have := HLB.out; have := hb2.size; omega⟩
        clear hb2 hx' hiff HBB HTBb HAB HLB
        have c0 : w2.cell? ⟨w.heap.size, 0, none⟩ = some (.int .i64 L.sc.cols) := HTB2.out.at' 0 (by omega)
        have c1 : w2.cell? ⟨w.heap.size, 1, none⟩ = some (.int .i64 L.sc.rows) := HTB2.out.at' 1 (by omega)
        have c2 : w2.cell? ⟨w.heap.size, 2, none⟩ = some (.slice os m cs) := HTB2.out.at' 2 (by omega)
        have c3 : w2.cell? ⟨w.heap.size, 3, none⟩ = some (.int .i64 L.w) := HTB2.out.at' 3 (by omega)
        have c4 : w2.cell? ⟨w.heap.size, 4, none⟩ = some (.int .i64 L.h) := HTB2.out.at' 4 (by omega)
        have c5 : w2.cell? ⟨w.heap.size, 5, none⟩ = some (.int .i64 L.head) := HTB2.out.at' 5 (by omega)
        have c6 : w2.cell? ⟨w.heap.size, 6, none⟩ = some (.int .i64 L.fore) := HTB2.out.at' 6 (by omega)
        have c7 : w2.cell? ⟨w.heap.size, 7, none⟩ = some (.int .i64 L.spine) := HTB2.out.at' 7 (by omega)
        have c8 : w2.cell? ⟨w.heap.size, 8, none⟩ = some (.int .i64 L.margin) := HTB2.out.at' 8 (by omega)
        have c9 : w2.cell? ⟨w.heap.size, 9, none⟩ = some (.int .i64 L.creep) := HTB2.out.at' 9 (by omega)
        have c10 : w2.cell? ⟨w.heap.size, 10, none⟩ = some (.int .i64 0) := HTB2.out.at' 10 (by omega)
        obtain ⟨aN, haN⟩ : ∃ q : Nat, (q : Int) = L.w := ⟨L.w.toNat, by omega⟩
        obtain ⟨bN, hbN⟩ : ∃ q : Nat, (q : Int) = L.h := ⟨L.h.toNat, by omega⟩
        have hcc : L.sc.cols ≤ 8 ∧ L.sc.rows ≤ 8 ∧ 1 ≤ L.sc.cols ∧ 1 ≤ L.sc.rows := ⟨HG0.out.f.inn.2.1, HG0.out.f.inn.2.2.2.1, HG0.out.f.inn.1, HG0.out.f.inn.2.2.1⟩
        have hplen : ((pagesV L.sc x).length : Int) = 2 * (L.sc.cols * L.sc.rows) ∧ L.sc.cols * L.sc.rows ≤ 32 := by
          have h1 := HG0.out.f.plen
          have h2 := leaves_bd HG0.out.f.inn
          have e : (st L 0).sc = L.sc := rfl
          rw [e] at h1 h2
          omega
        obtain ⟨CR, hCR⟩ : ∃ C, C = 2 * L.sc.cols * L.sc.rows := ⟨_, rfl⟩
        have hCR2 : CR = ((pagesV L.sc x).length : Int) ∧ 0 ≤ CR ∧ CR ≤ 64 := by
          rw [hCR, Int.mul_assoc]
          omega
        have x1 : IntKind.i64.wrap (2 * L.sc.cols) = 2 * L.sc.cols := IntWalk.i64_in _ (by omega)
        have x2 : IntKind.i64.wrap (2 * L.sc.cols * L.sc.rows) = CR := by rw [← hCR]; exact IntWalk.i64_in _ (by omega)
        have hmc := mcV_bd (x := many) (lo := 0) (hi := CR) hCR2.2.1
        obtain ⟨nN, hnN⟩ : ∃ q : Nat, (q : Int) = mcV many 0 CR := ⟨(mcV many 0 CR).toNat, by omega⟩
        have HMC : Hid (∀ W, Calls Try.prog 8 #[.int .i64 many, .int .i64 0, .int .i64 CR] W fun e w' => e = .returned (.int .i64 nN) ∧ W = w') := fun W => by
          rw [hnN]
          exact mcut_any many 0 CR W (by omega) hCR2.2.1 (by omega)
        have hnb : nN ≤ 64 := by omega
        have HNL : Hid (nN ≤ (pagesV L.sc x).length) := by show _ ≤ _; omega
        have HDT : Hid (∀ W (j : Nat), j ≤ 64 → Calls Try.prog 9 #[.int .i64 L.w, .int .i64 L.h, .int .i64 j] W (fun e w' => ∃ o n c, e = .returned (.agg #[.int .i64 L.w, .int .i64 L.h, .slice o n c]) ∧ n = (listI (dotsI aN bN j)).length ∧ OwnPx w' W.heap.size (.slice o n c) (listI (dotsI aN bN j)) ∧ Below W.heap.size W w')) := fun W j hj => by
          have h := dots_any aN bN (by omega) (j : Int) (by omega) W
          rw [haN, hbN] at h
          refine h.mono ?_
          rintro e w' ⟨o, c, he, ho, hb⟩
          refine ⟨o, _, c, ?_, rfl, ho, hb⟩
          rw [he]
          show Ending.returned (.agg #[.int .i64 (aN : Int), .int .i64 (bN : Int), _]) = _
          rw [haN, hbN]
        have HAB2 : Hid ((aN : Int) = L.w ∧ (bN : Int) = L.h) := ⟨haN, hbN⟩
        clear haN hbN hcc hplen hCR hCR2 hmc hnN
        go_wp2_with fail
        refine (HMC.out w2).mono ?_
        rintro e w2' ⟨rfl, rfl⟩
        clear HMC x1 x2 c0 c1 c2 c3 c4 c5 c6 c7 c8 c9 c10
        go_wp2_with fail
        go_loopw [6, 43] (fun v i wr => ∃ j : Nat, j ≤ nN ∧ i = .int .i64 j ∧ ∃ o c, v = .slice o j c ∧ Hid (Below w2.heap.size w2 wr ∧ ∃ us, RowsU encRp blkP RelP 37 3 wr w2.heap.size (.slice o j c) us ((List.range j).map fun (i : Nat) => dotsI aN bN (i : Int)) ∧ ∀ u ∈ us, ∀ g, blkP u g → w2.heap.size ≤ g)) (fun _ i _ => nN - (intOf i).toNat)
        case atStart => exact ⟨0, by omega, rfl, none, 0, rfl, Below.refl _ _, [], RowsU.nil _ _, fun u h => (by cases h)⟩
        case round =>
          obtain ⟨j, hj, rfl, o, c, rfl, HQ⟩ := hrel
          obtain ⟨wq, rfl⟩ : ∃ wq : World, wq = wr := ⟨_, rfl⟩
          obtain ⟨hbq, us, hu, hlo⟩ := HQ.out
          clear HQ
          have htq := HTB2.out.below hbq (by have := HLT2.out; omega)
          by_cases hlt : j < nN
          · have kd : (j : Int) < (nN : Int) := by omega
            have c3 : wq.cell? ⟨w.heap.size, 3, none⟩ = some (.int .i64 L.w) := htq.at' 3 (by omega)
            have c4 : wq.cell? ⟨w.heap.size, 4, none⟩ = some (.int .i64 L.h) := htq.at' 4 (by omega)
            have HDJ := Lib.hid (HDT.out wq j (by omega))
            have hul : us.length = j := by rw [hu.len]; simp
            have HU := Lib.hid hu
            have HBQ := Lib.hid hbq
            have HLO := Lib.hid hlo
            have HUL := Lib.hid hul
            clear htq hu hbq hlo hul HDT
            go_wp2_with fail
            refine HDJ.out.mono ?_
            rintro e w5 ⟨o5, n5, k5, rfl, hn5, hown5, hb5⟩
            have hcap := hown5.cap
            obtain ⟨oz, kz, ez, hcz⟩ := hcap
            simp only [Value.slice.injEq] at ez
            have hk5 : n5 ≤ k5 := by omega
            have hb6 := balloc (Below.refl _ w5) (.cells #[.int .i64 L.w, .int .i64 L.h, .slice o5 n5 k5] 37)
            have HU6 := Lib.hid (HU.out.below stabPl (bthen hb5 hb6))
            have HR6 : Hid (RelP (w5.alloc (.cells #[.int .i64 L.w, .int .i64 L.h, .slice o5 n5 k5] 37)) ⟨L.w, L.h, o5, n5, k5⟩ (dotsI aN bN j)) :=
              ⟨HAB2.out.1.symm, HAB2.out.2.symm, hn5, by rw [← hn5]; exact hk5, (OwnPx.at hown5).below hb6⟩
            have HG6 : Hid (∀ g, blkP ⟨L.w, L.h, o5, n5, k5⟩ g → wq.heap.size ≤ g ∧ g < w5.heap.size) := fun g hg => hown5.blk hg
            have HB6 := Lib.hid (bthen HBQ.out (bthen hb5 hb6))
            have HZ6 : Hid (w2.heap.size ≤ wq.heap.size ∧ wq.heap.size ≤ w5.heap.size) := ⟨HBQ.out.size, hb5.size⟩
            have HNEW : Hid (∀ (q : Nat) (u : Value), (encRp ⟨L.w, L.h, o5, n5, k5⟩)[q]? = some u → (w5.alloc (.cells #[.int .i64 L.w, .int .i64 L.h, .slice o5 n5 k5] 37)).cell? ((⟨w5.heap.size, 0, none⟩ : Addr).add q) = some u) := World.news_of_block (cs := #[.int .i64 L.w, .int .i64 L.h, .slice o5 n5 k5]) (t := 37) (fr := (0, 0)) (heap_alloc_new w5 _)
            clear hown5 hb5 hb6 hn5 ez hcz hk5 c3 c4 HDJ
            go_wp2_with (at_builtin; refine wpList_app1L rfl (.tmp 46) (.tmp 53) 31 rfl elemPlate Try.underlying31 w2.heap.size (.slice o j c) us encRp rfl HU6.out.op ⟨L.w, L.h, o5, n5, k5⟩ ⟨w5.heap.size, 0, none⟩ 1 rfl rfl HNEW.out ?c1 ?c2 ?c3 ?c4 ?_)
            case c1 => simp [encRp, Value.oneCell']
            case c2 => have := HUL.out; omega
            case c3 => have := HUL.out; unfold maxLen; omega
            case c4 => have := HB6.out.size; exact this
            rw [HUL.out]
            intro g7 cap7 w7 hown7 hgr7 hat7
            have HNX : Hid (Below w2.heap.size w2 w7 ∧ ∃ us, RowsU encRp blkP RelP 37 3 w7 w2.heap.size (.slice (some ⟨g7, 0, none⟩) (j + 1) cap7) us ((List.range (j + 1)).map fun (i : Nat) => dotsI aN bN (i : Int)) ∧ ∀ u ∈ us, ∀ g, blkP u g → w2.heap.size ≤ g) := by
              refine ⟨HB6.out.grown hgr7 HB6.out.size (fun q hq => (HU6.out.op.blk hq).1), us ++ [⟨L.w, L.h, o5, n5, k5⟩], ?_, fun u hu g hg => ?_⟩
              · rw [List.range_succ, List.map_append]
                refine HU6.out.add stabPl HR6.out (fun g hg => ⟨by have := (HG6.out g hg).2; simp; omega, fun e => ?_⟩) hown7 hgr7 ?_
                · have h1 := (HU.out.op.blk e).2
                  have h2 := (HG6.out g hg).1
                  omega
                · rcases hat7 with e | e
                  · exact .inl e.symm
                  · exact .inr (by rw [e]; simp [Value.ownBlock])
              · rcases List.mem_append.1 hu with h | h
                · exact HLO.out u h g hg
                · rw [List.mem_singleton.1 h] at hg
                  exact Nat.le_trans HZ6.out.1 (HG6.out g hg).1
            clear hown7 hgr7 hat7 HU6 HR6 HG6 HNEW HU HB6
            go_wp2_with fail
            go_roundw
            case rel => exact ⟨j + 1, by omega, by go_num, _, _, rfl, HNX⟩
            case measure => simp [intOf]; omega
          · obtain rfl : nN = j := by omega
            obtain ⟨gs, hgs⟩ : ∃ gs, gs = (List.range nN).map fun (i : Nat) => dotsI aN bN (i : Int) := ⟨_, rfl⟩
            rw [← hgs] at hu
            have hgl : gs.length = nN := by rw [hgs]; simp
            have HOK : Hid (PgOk L x gs) := by
              refine ⟨fun g hg => ?_, fun g hg => ?_, by rw [hgl]; exact HNL.out⟩
              · rw [hgs] at hg
                obtain ⟨i, -, rfl⟩ := List.mem_map.1 hg
                exact HAB2.out.1
              · rw [hgs] at hg
                obtain ⟨i, -, rfl⟩ := List.mem_map.1 hg
                exact HAB2.out.2
            obtain ⟨o6, ho6⟩ : ∃ q, q = o := ⟨_, rfl⟩
            obtain ⟨q6, hc6⟩ : ∃ q, q = c := ⟨_, rfl⟩
            obtain ⟨n6, hn6⟩ : ∃ q, q = nN := ⟨_, rfl⟩
            rw [← ho6, ← hc6]
            rw [← ho6, ← hc6] at hu
            have HN6 : Hid (n6 = gs.length) := by show _ = _; rw [hn6, hgl]
            have HPG : Hid (PgS (b5 + 1) wq (.slice o6 n6 q6) gs) := by
              have hbk : ∀ a, o6 = some a → w2.heap.size ≤ a.block := fun a e => (hu.op.blk (g := a.block) (by rw [e]; rfl)).1
              obtain ⟨oa', cap', e', -, -, hv⟩ := hu.view (fun _ => rfl)
              simp only [Value.slice.injEq] at e'
              obtain ⟨rfl, -, rfl⟩ := e'
              have hz := HLT2.out.2
              exact ⟨o6, q6, us, by rw [HN6.out], hv, fun a e => by have := hbk a e; omega, fun u hu g hg => by have := hlo u hu g hg; omega⟩
            have HBT : Hid (Below w.heap.size w wq) := HBT2.out.trans (hbq.mono HBT2.out.size)
            have HTB := Lib.hid htq
            have HARR := Lib.hid (HARR2.out.below hbq HLT2.out.2)
            have HLT : Hid (w.heap.size < b5 ∧ b5 < wq.heap.size) := ⟨HLT2.out.1, by have := HLT2.out.2; have := hbq.size; omega⟩
            rw [← hn6]
            clear hgs hgl hu hlo hbq htq ho6 hc6 HDT HBT2 HTB2 HARR2 HLT2 hlt
            clear hn6
            have c0 : wq.cell? ⟨w.heap.size, 0, none⟩ = some (.int .i64 L.sc.cols) := HTB.out.at' 0 (by omega)
            have c1 : wq.cell? ⟨w.heap.size, 1, none⟩ = some (.int .i64 L.sc.rows) := HTB.out.at' 1 (by omega)
            have c2 : wq.cell? ⟨w.heap.size, 2, none⟩ = some (.slice os m cs) := HTB.out.at' 2 (by omega)
            have c3 : wq.cell? ⟨w.heap.size, 3, none⟩ = some (.int .i64 L.w) := HTB.out.at' 3 (by omega)
            have c4 : wq.cell? ⟨w.heap.size, 4, none⟩ = some (.int .i64 L.h) := HTB.out.at' 4 (by omega)
            have c5 : wq.cell? ⟨w.heap.size, 5, none⟩ = some (.int .i64 L.head) := HTB.out.at' 5 (by omega)
            have c6 : wq.cell? ⟨w.heap.size, 6, none⟩ = some (.int .i64 L.fore) := HTB.out.at' 6 (by omega)
            have c7 : wq.cell? ⟨w.heap.size, 7, none⟩ = some (.int .i64 L.spine) := HTB.out.at' 7 (by omega)
            have c8 : wq.cell? ⟨w.heap.size, 8, none⟩ = some (.int .i64 L.margin) := HTB.out.at' 8 (by omega)
            have c9 : wq.cell? ⟨w.heap.size, 9, none⟩ = some (.int .i64 L.creep) := HTB.out.at' 9 (by omega)
            have c10 : wq.cell? ⟨w.heap.size, 10, none⟩ = some (.int .i64 0) := HTB.out.at' 10 (by omega)
            obtain ⟨M, hM⟩ : ∃ M, M = frI (st L 0) x gs := ⟨_, rfl⟩
            obtain ⟨P, hP⟩ : ∃ P, P = bkI (st L 0) x gs := ⟨_, rfl⟩
            have hsz := fr_sized HGS.out gs
            have hfs := fr_size (st L 0) x gs
            rw [← hM, ← hP] at hsz hfs
            have HPW : Hid (P.W = M.W ∧ P.H = M.H) := ⟨by rw [hfs.1, hfs.2.2.1], by rw [hfs.2.1, hfs.2.2.2]⟩
            have HMS := Lib.hid hsz.1
            have HIP : Hid (∀ W (back : Bool), Below w.heap.size w W → PgS (b5 + 1) W (.slice o6 n6 q6) gs → Calls Try.prog 10 #[.agg #[.int .i64 L.sc.cols, .int .i64 L.sc.rows, .slice os m cs, .int .i64 L.w, .int .i64 L.h, .int .i64 L.head, .int .i64 L.fore, .int .i64 L.spine, .int .i64 L.margin, .int .i64 L.creep, .int .i64 0], .slice o6 n6 q6, .bool back, .bool false] W (RetGrid0 (if back then P else M) W)) := fun W back hbW hpW => by
              obtain ⟨o', c', e', hpl⟩ := hpW.at
              simp only [Value.slice.injEq] at e'
              obtain ⟨rfl, -, rfl⟩ := e'
              have h := ipl_any (st L 0) x HGS.out os cs gs ⟨HOK.out.W, HOK.out.H⟩ HOK.out.n o6 q6 back W (HST.out W 0 hbW) hpl
              have e1 : (st L 0).sc.steps.length = m := HML.out
              rw [e1] at h
              have h2 : Calls Try.prog 10 #[.agg #[.int .i64 L.sc.cols, .int .i64 L.sc.rows, .slice os m cs, .int .i64 L.w, .int .i64 L.h, .int .i64 L.head, .int .i64 L.fore, .int .i64 L.spine, .int .i64 L.margin, .int .i64 L.creep, .int .i64 0], .slice o6 gs.length q6, .bool back, .bool false] W (RetGrid0 (if back then P else M) W) := by
                rw [hM, hP]
                cases back with
                | false => exact h
                | true => exact h
              rw [← HN6.out] at h2
              exact h2
            have HSS : Hid (ss0 L x gs = cutS0 M P) := by
              show _ = _
              rw [hM, hP]; rfl
            have HIF := Lib.hid (HIP.out wq false HBT.out HPG.out)
            have HM := Lib.hid (And.intro hM hP)
            clear hM hP hsz hfs
            go_wp2_with fail
            refine HIF.out.mono ?_
            intro e w3 hret
            clear c0 c1 c2 c3 c4 c5 c6 c7 c8 c9 c10 HIF
            obtain ⟨o3, k3, he, hown3, hb3⟩ := hret
            obtain ⟨nM, hnM⟩ : ∃ q, q = (listI M).length := ⟨_, rfl⟩
            have he' : e = .returned (.tuple #[.agg #[.int .i64 M.W, .int .i64 M.H, .slice o3 nM k3], .int .i64 0]) := by rw [hnM]; exact he
            subst he'
            clear he
            have hown3 : OwnPx w3 wq.heap.size (.slice o3 (listI M).length k3) (listI M) := hown3
            rw [← hnM] at hown3
            obtain ⟨W4', hW4'⟩ : ∃ W, W = w3.alloc (.cells #[.int .i64 M.W, .int .i64 M.H, .slice o3 nM k3] 37) := ⟨_, rfl⟩
            have hg4 : FTab (fun v : Value => v) W4' w3.heap.size 3 (outF (.int .i64 M.W) (.int .i64 M.H) (.slice o3 nM k3)) := by rw [hW4']; exact outF_new w3 _ _ _ _
            have hb34 : Below w3.heap.size w3 W4' := by rw [hW4']; exact balloc (Below.refl _ w3) _
            have hb4 : Below wq.heap.size wq W4' := bthen hb3 hb34
            have hz34 : w3.heap.size < W4'.heap.size := by rw [hW4']; simp
            have HX4 : Hid (PxAt W4' o3 nM k3 (listI M)) := (OwnPx.at hown3).below hb34
            have HW4' := Lib.hid hW4'
            have HG4 := Lib.hid hg4
            have HB4' := Lib.hid hb4
            have HZ4' := Lib.hid hz34
            have HNM := Lib.hid hnM
            have HT4' := Lib.hid (HTB.out.below hb4 (by have := HLT.out; omega))
            clear hW4' hg4 hb34 hb4 hz34 hown3 hb3 hnM
            dsimp only
            go_upto_region 20 with fail
            rw [← HW4'.out]
            clear HW4'
            have c0 : W4'.cell? ⟨w.heap.size, 0, none⟩ = some (.int .i64 L.sc.cols) := HT4'.out.at' 0 (by omega)
            have c1 : W4'.cell? ⟨w.heap.size, 1, none⟩ = some (.int .i64 L.sc.rows) := HT4'.out.at' 1 (by omega)
            have c2 : W4'.cell? ⟨w.heap.size, 2, none⟩ = some (.slice os m cs) := HT4'.out.at' 2 (by omega)
            have c3 : W4'.cell? ⟨w.heap.size, 3, none⟩ = some (.int .i64 L.w) := HT4'.out.at' 3 (by omega)
            have c4 : W4'.cell? ⟨w.heap.size, 4, none⟩ = some (.int .i64 L.h) := HT4'.out.at' 4 (by omega)
            have c5 : W4'.cell? ⟨w.heap.size, 5, none⟩ = some (.int .i64 L.head) := HT4'.out.at' 5 (by omega)
            have c6 : W4'.cell? ⟨w.heap.size, 6, none⟩ = some (.int .i64 L.fore) := HT4'.out.at' 6 (by omega)
            have c7 : W4'.cell? ⟨w.heap.size, 7, none⟩ = some (.int .i64 L.spine) := HT4'.out.at' 7 (by omega)
            have c8 : W4'.cell? ⟨w.heap.size, 8, none⟩ = some (.int .i64 L.margin) := HT4'.out.at' 8 (by omega)
            have c9 : W4'.cell? ⟨w.heap.size, 9, none⟩ = some (.int .i64 L.creep) := HT4'.out.at' 9 (by omega)
            have c10 : W4'.cell? ⟨w.heap.size, 10, none⟩ = some (.int .i64 0) := HT4'.out.at' 10 (by omega)
            have HIB := Lib.hid (HIP.out W4' true (HBT.out.trans (HB4'.out.mono HBT.out.size)) (HPG.out.high (HighZ.ofBelow HB4'.out)))
            clear HIP
            go_wp2_with fail
            refine HIB.out.mono ?_
            intro e w5 hret
            clear c0 c1 c2 c3 c4 c5 c6 c7 c8 c9 c10 HIB
            obtain ⟨o5, k5, he, hown5, hb5⟩ := hret
            obtain ⟨nP, hnP⟩ : ∃ q, q = (listI P).length := ⟨_, rfl⟩
            have he' : e = .returned (.tuple #[.agg #[.int .i64 P.W, .int .i64 P.H, .slice o5 nP k5], .int .i64 0]) := by rw [hnP]; exact he
            subst he'
            clear he
            have hown5 : OwnPx w5 W4'.heap.size (.slice o5 (listI P).length k5) (listI P) := hown5
            rw [← hnP] at hown5
            obtain ⟨W6, hW6⟩ : ∃ W, W = w5.alloc (.cells #[.int .i64 P.W, .int .i64 P.H, .slice o5 nP k5] 37) := ⟨_, rfl⟩
            have hg6 : FTab (fun v : Value => v) W6 w5.heap.size 3 (outF (.int .i64 P.W) (.int .i64 P.H) (.slice o5 nP k5)) := by rw [hW6]; exact outF_new w5 _ _ _ _
            have hb56 : Below w5.heap.size w5 W6 := by rw [hW6]; exact balloc (Below.refl _ w5) _
            have hb6 : Below W4'.heap.size W4' W6 := bthen hb5 hb56
            have HX6 : Hid (PxAt W6 o5 nP k5 (listI P)) := (OwnPx.at hown5).below hb56
            have HW6 := Lib.hid hW6
            have HB6 := Lib.hid hb6
            have hg4 := HG4.out.below hb6 HZ4'.out
            have HCT : Hid (Calls Try.prog 11 #[.agg #[.int .i64 M.W, .int .i64 M.H, .slice o3 nM k3], .agg #[.int .i64 P.W, .int .i64 P.H, .slice o5 nP k5], .int .i64 0] W6 (RetCut (ss0 L x gs) W6)) := by
              have h := cut0_any M P HMS.out HPW.out.1 HPW.out.2 o3 o5 k3 k5 W6 (by rw [← HNM.out]; exact HX4.out.below hb6) (by rw [← hnP]; exact HX6.out)
              rw [← HNM.out, ← hnP] at h
              rw [HSS.out]
              exact h
            have e0 : W6.cell? ⟨w3.heap.size, 0, none⟩ = some (.int .i64 M.W) := hg4.at' 0 (by omega)
            have e1 : W6.cell? ⟨w3.heap.size, 1, none⟩ = some (.int .i64 M.H) := hg4.at' 1 (by omega)
            have e2 : W6.cell? ⟨w3.heap.size, 2, none⟩ = some (.slice o3 nM k3) := hg4.at' 2 (by omega)
            have f0 : W6.cell? ⟨w5.heap.size, 0, none⟩ = some (.int .i64 P.W) := hg6.at' 0 (by omega)
            have f1 : W6.cell? ⟨w5.heap.size, 1, none⟩ = some (.int .i64 P.H) := hg6.at' 1 (by omega)
            have f2 : W6.cell? ⟨w5.heap.size, 2, none⟩ = some (.slice o5 nP k5) := hg6.at' 2 (by omega)
            clear hW6 hg6 hg4 hb56 hb6 hb5 hown5 hnP
            dsimp only
            go_upto_region 21 with fail
            rw [← HW6.out]
            clear HW6
            go_wp2_with fail
            refine HCT.out.mono ?_
            intro e w7 hret
            clear e0 e1 e2 f0 f1 f2 HCT
            obtain ⟨us7, o7, q7, he, hrow, hle, hb7, hfr⟩ := hret
            have he' : e = .returned (.tuple #[.slice o7 1 q7, .int .i64 0]) := he
            subst he'
            clear he
            have hbt7 : Below wq.heap.size wq w7 := bthen HB4'.out (bthen HB6.out hb7)
            have ha7 := HARR.out.below hbt7 HLT.out.2
            have ht7 := HTB.out.below hbt7 (by have := HLT.out; omega)
            have sz6 : wq.heap.size ≤ W6.heap.size := (bthen HB4'.out HB6.out).size
            have g0 : w7.cell? ⟨b5, 0, none⟩ = some (.slice none 0 0) := ha7.at' 0 (by omega)
            have gf := ha7.fz 0
            obtain ⟨w8, hw8⟩ : ∃ w8, w8 = w7.setCell ⟨b5, 0, none⟩ (.slice o7 1 q7) := ⟨_, rfl⟩
            have hh8 : HighZ (b5 + 1) w7 w8 := by rw [hw8]; exact HighZ.setCell w7 (by omega) _
            have HNX : Hid (∃ v0 v1 v2, TR w w8 b5 L os m cs (.slice o6 n6 q6) v0 v1 v2 ∧ TD (b5 + 1) L w8 (.slice o6 n6 q6) v0 v1 v2 1) := by
              have hh : HighZ (b5 + 1) wq w8 := (HighZ.ofBelow hbt7).trans hh8
              have hnew : ShS (b5 + 1) w8 (.slice o7 1 q7) (ss0 L x gs) := ShS.high ⟨o7, q7, us7, rfl, hrow, ⟨fun a e => Nat.le_trans HLT.out.2 (Nat.le_trans sz6 (hfr.1 a e)), fun u hu g hg => Nat.le_trans HLT.out.2 (Nat.le_trans sz6 (hfr.2 u hu g hg))⟩, hle⟩ hh8
              refine ⟨(.slice o7 1 q7), (.slice none 0 0), (.slice none 0 0), ⟨?_, ⟨0, ?_⟩, ?_, ?_⟩, x, gs, HG0.out, HOK.out, HPG.out.high hh, hnew, rfl, rfl⟩
              · rw [hw8]; exact (HBT.out.trans (hbt7.mono HBT.out.size)).setCell (p := ⟨b5, 0, none⟩) (by have := HLT.out; show _ ≤ b5; omega) _
              · rw [hw8]; exact ht7.other (b := b5) (by have := HLT.out; omega) _
              · rw [hw8]; exact (ha7.set (i := 0) (by omega) (.slice o7 1 q7)).congr fun i hi => match i, hi with
                  | 0, _ => rfl
                  | 1, _ => rfl
                  | 2, _ => rfl
              · rw [hw8]; exact ⟨HLT.out.1, by have := HLT.out; have := hbt7.size; simp; omega⟩
            have HW8 := Lib.hid hw8
            clear hrow hle hb7 hfr hbt7 ha7 ht7 hw8 hh8 sz6
            dsimp only
            go_upto_region 25 with fail
            rw [← HW8.out]
            clear HW8 g0 gf
            go_wp2_with fail
            go_roundw
            case rel => exact ⟨1, by omega, by go_num, HNX⟩
            case measure => simp [intOf]
      · have hne : (c != 0) = true := by simpa using hc
        have HF := Lib.hid (HBB.out.trans (hb2.mono HBB.out.size))
        clear hc hiff hb2
        go_wp2_with fail
        go_ret
        exact ⟨rfl, HF.out⟩
    · obtain ⟨x, gs, hg0, hok, hpg, hs0, rfl, rfl⟩ := hd
      obtain ⟨o6, q6, hv6, -⟩ := hpg.at
      obtain ⟨n6, hn6⟩ : ∃ q, q = gs.length := ⟨_, rfl⟩
      rw [← hn6] at hv6
      subst hv6
      have HN6 := Lib.hid hn6
      have HG0 := Lib.hid hg0
      have HOK := Lib.hid hok
      clear hn6 hg0 hok
      obtain ⟨sy, hty⟩ := ht.tab
      have c10 : wa.cell? ⟨w.heap.size, 10, none⟩ = some (.int .i64 sy) := hty.at' 10 (by omega)
      have cf := hty.fz 10
      obtain ⟨wb, hwb⟩ : ∃ wb, wb = wa.setCell ⟨w.heap.size, 10, none⟩ (.int .i64 1) := ⟨_, rfl⟩
      have htb : FTab (fun v : Value => v) wb w.heap.size 11 (layF (st L 1) os m cs) := by
        rw [hwb]
        exact (hty.set (i := 10) (by omega) (.int .i64 1)).congr (layF_congr rfl rfl rfl rfl rfl rfl rfl rfl rfl rfl rfl)
      have hlt := ht.lt
      have hab : FTab (fun v : Value => v) wb b5 3 (outF (v0) (.slice none 0 0) (.slice none 0 0)) := by rw [hwb]; exact ht.arr.other (b := w.heap.size) (by omega) _
      have hbb : Below w.heap.size w wb := by rw [hwb]; exact ht.bel.setCell (p := ⟨w.heap.size, 10, none⟩) (Nat.le_refl _) _
      have hlb : w.heap.size < b5 ∧ b5 < wb.heap.size := by rw [hwb]; exact ⟨hlt.1, by simp; exact hlt.2⟩
      have hhz : HighZ (b5 + 1) wa wb := by rw [hwb]; exact HighZ.setCell wa (by omega) _
      have HWB := Lib.hid hwb
      have HTBb := Lib.hid htb
      have HAB := Lib.hid hab
      have HBB := Lib.hid hbb
      have HLB := Lib.hid hlb
      have HPGb := Lib.hid (hpg.high hhz)
      have HS0b := Lib.hid (hs0.high hhz)
      clear hpg hs0
      clear hwb htb hab hbb hlb hhz hty ht hlt
      go_upto_region 10 with fail
      rw [← HWB.out]
      clear HWB c10 cf
      have c0 : wb.cell? ⟨w.heap.size, 0, none⟩ = some (.int .i64 L.sc.cols) := HTBb.out.at' 0 (by omega)
      have c1 : wb.cell? ⟨w.heap.size, 1, none⟩ = some (.int .i64 L.sc.rows) := HTBb.out.at' 1 (by omega)
      have c2 : wb.cell? ⟨w.heap.size, 2, none⟩ = some (.slice os m cs) := HTBb.out.at' 2 (by omega)
      have c3 : wb.cell? ⟨w.heap.size, 3, none⟩ = some (.int .i64 L.w) := HTBb.out.at' 3 (by omega)
      have c4 : wb.cell? ⟨w.heap.size, 4, none⟩ = some (.int .i64 L.h) := HTBb.out.at' 4 (by omega)
      have c5 : wb.cell? ⟨w.heap.size, 5, none⟩ = some (.int .i64 L.head) := HTBb.out.at' 5 (by omega)
      have c6 : wb.cell? ⟨w.heap.size, 6, none⟩ = some (.int .i64 L.fore) := HTBb.out.at' 6 (by omega)
      have c7 : wb.cell? ⟨w.heap.size, 7, none⟩ = some (.int .i64 L.spine) := HTBb.out.at' 7 (by omega)
      have c8 : wb.cell? ⟨w.heap.size, 8, none⟩ = some (.int .i64 L.margin) := HTBb.out.at' 8 (by omega)
      have c9 : wb.cell? ⟨w.heap.size, 9, none⟩ = some (.int .i64 L.creep) := HTBb.out.at' 9 (by omega)
      have c10 : wb.cell? ⟨w.heap.size, 10, none⟩ = some (.int .i64 1) := HTBb.out.at' 10 (by omega)
      have HCK : Hid (Calls Try.prog 7 #[.agg #[.int .i64 L.sc.cols, .int .i64 L.sc.rows, .slice os m cs, .int .i64 L.w, .int .i64 L.h, .int .i64 L.head, .int .i64 L.fore, .int .i64 L.spine, .int .i64 L.margin, .int .i64 L.creep, .int .i64 1]] wb (RetCode (GoodL (st L 1)) wb)) := by
        have h := icheck_any (st L 1) os cs wb (HST.out wb 1 HBB.out)
        have e1 : (st L 1).sc.steps.length = m := HML.out
        rw [e1] at h
        exact h
      go_wp2_with fail
      refine HCK.out.mono ?_
      intro e w2 hret
      obtain ⟨c, rfl, hiff, hb2⟩ := hret
      clear c0 c1 c2 c3 c4 c5 c6 c7 c8 c9 c10 HCK
      by_cases hc : c = 0
      · subst hc
        obtain ⟨x', hx'⟩ := hiff.1 rfl
        obtain rfl := good_same HG0.out hx'
        have HGS := Lib.hid hx'
        have HBT2 := Lib.hid (HBB.out.trans (hb2.mono HBB.out.size))
        have HTB2 := Lib.hid (HTBb.out.below hb2 (by have := HLB.out; omega))
        have HARR2 := Lib.hid (HAB.out.below hb2 HLB.out.2)
        have HLT2 : Hid (w.heap.size < b5 ∧ b5 < w2.heap.size) := ⟨HLB.out.1, by have := HLB.out; have := hb2.size; omega⟩
        have HPG := Lib.hid (HPGb.out.high (HighZ.ofBelow hb2))
        have HS0 := Lib.hid (HS0b.out.high (HighZ.ofBelow hb2))
        clear HPGb HS0b
        clear hb2 hx' hiff HBB HTBb HAB HLB
        obtain ⟨HBT, HTB, HARR, HLT⟩ : ∃ (_ : Hid (Below w.heap.size w w2)) (_ : Hid (FTab (fun v : Value => v) w2 w.heap.size 11 (layF (st L 1) os m cs))) (_ : Hid (FTab (fun v : Value => v) w2 b5 3 (outF (v0) (.slice none 0 0) (.slice none 0 0)))), Hid (w.heap.size < b5 ∧ b5 < w2.heap.size) := ⟨HBT2, HTB2, HARR2, HLT2⟩
        clear HBT2 HTB2 HARR2 HLT2
        have c0 : w2.cell? ⟨w.heap.size, 0, none⟩ = some (.int .i64 L.sc.cols) := HTB.out.at' 0 (by omega)
        have c1 : w2.cell? ⟨w.heap.size, 1, none⟩ = some (.int .i64 L.sc.rows) := HTB.out.at' 1 (by omega)
        have c2 : w2.cell? ⟨w.heap.size, 2, none⟩ = some (.slice os m cs) := HTB.out.at' 2 (by omega)
        have c3 : w2.cell? ⟨w.heap.size, 3, none⟩ = some (.int .i64 L.w) := HTB.out.at' 3 (by omega)
        have c4 : w2.cell? ⟨w.heap.size, 4, none⟩ = some (.int .i64 L.h) := HTB.out.at' 4 (by omega)
        have c5 : w2.cell? ⟨w.heap.size, 5, none⟩ = some (.int .i64 L.head) := HTB.out.at' 5 (by omega)
        have c6 : w2.cell? ⟨w.heap.size, 6, none⟩ = some (.int .i64 L.fore) := HTB.out.at' 6 (by omega)
        have c7 : w2.cell? ⟨w.heap.size, 7, none⟩ = some (.int .i64 L.spine) := HTB.out.at' 7 (by omega)
        have c8 : w2.cell? ⟨w.heap.size, 8, none⟩ = some (.int .i64 L.margin) := HTB.out.at' 8 (by omega)
        have c9 : w2.cell? ⟨w.heap.size, 9, none⟩ = some (.int .i64 L.creep) := HTB.out.at' 9 (by omega)
        have c10 : w2.cell? ⟨w.heap.size, 10, none⟩ = some (.int .i64 1) := HTB.out.at' 10 (by omega)
        obtain ⟨M, hM⟩ : ∃ M, M = frI (st L 1) x gs := ⟨_, rfl⟩
        obtain ⟨P, hP⟩ : ∃ P, P = bkI (st L 1) x gs := ⟨_, rfl⟩
        have hsz := fr_sized HGS.out gs
        have hfs := fr_size (st L 1) x gs
        rw [← hM, ← hP] at hsz hfs
        have HPW : Hid (P.W = M.W ∧ P.H = M.H) := ⟨by rw [hfs.1, hfs.2.2.1], by rw [hfs.2.1, hfs.2.2.2]⟩
        have HMS := Lib.hid hsz.1
        have HV1 : Hid (1 ≤ oW L ∧ M.W = 2 * oW L) := by
          have hp := one_pos HG0.out
          have h1 : 1 ≤ oneW L := hp.1
          have h2 : M.W = (oneW L * 2).toNat := hfs.1
          show 1 ≤ (oneW L).toNat ∧ M.W = 2 * (oneW L).toNat
          omega
        have HIP : Hid (∀ W (back : Bool), Below w.heap.size w W → PgS (b5 + 1) W (.slice o6 n6 q6) gs → Calls Try.prog 10 #[.agg #[.int .i64 L.sc.cols, .int .i64 L.sc.rows, .slice os m cs, .int .i64 L.w, .int .i64 L.h, .int .i64 L.head, .int .i64 L.fore, .int .i64 L.spine, .int .i64 L.margin, .int .i64 L.creep, .int .i64 1], .slice o6 n6 q6, .bool back, .bool false] W (RetGrid0 (if back then P else M) W)) := fun W back hbW hpW => by
          obtain ⟨o', c', e', hpl⟩ := hpW.at
          simp only [Value.slice.injEq] at e'
          obtain ⟨rfl, -, rfl⟩ := e'
          have h := ipl_any (st L 1) x HGS.out os cs gs ⟨HOK.out.W, HOK.out.H⟩ HOK.out.n o6 q6 back W (HST.out W 1 hbW) hpl
          have e1 : (st L 1).sc.steps.length = m := HML.out
          rw [e1] at h
          have h2 : Calls Try.prog 10 #[.agg #[.int .i64 L.sc.cols, .int .i64 L.sc.rows, .slice os m cs, .int .i64 L.w, .int .i64 L.h, .int .i64 L.head, .int .i64 L.fore, .int .i64 L.spine, .int .i64 L.margin, .int .i64 L.creep, .int .i64 1], .slice o6 gs.length q6, .bool back, .bool false] W (RetGrid0 (if back then P else M) W) := by
            rw [hM, hP]
            cases back with
            | false => exact h
            | true => exact h
          rw [← HN6.out] at h2
          exact h2
        have HSS : Hid (ss1 L x gs = cutS1 M P (oW L)) := by
          show _ = _
          rw [hM, hP]; rfl
        have HIF := Lib.hid (HIP.out w2 false HBT.out HPG.out)
        have HM := Lib.hid (And.intro hM hP)
        clear hM hP hsz hfs
        go_wp2_with fail
        refine HIF.out.mono ?_
        intro e w3 hret
        clear c0 c1 c2 c3 c4 c5 c6 c7 c8 c9 c10 HIF
        obtain ⟨o3, k3, he, hown3, hb3⟩ := hret
        obtain ⟨nM, hnM⟩ : ∃ q, q = (listI M).length := ⟨_, rfl⟩
        have he' : e = .returned (.tuple #[.agg #[.int .i64 M.W, .int .i64 M.H, .slice o3 nM k3], .int .i64 0]) := by rw [hnM]; exact he
        subst he'
        clear he
        have hown3 : OwnPx w3 w2.heap.size (.slice o3 (listI M).length k3) (listI M) := hown3
        rw [← hnM] at hown3
        obtain ⟨W4', hW4'⟩ : ∃ W, W = w3.alloc (.cells #[.int .i64 M.W, .int .i64 M.H, .slice o3 nM k3] 37) := ⟨_, rfl⟩
        have hg4 : FTab (fun v : Value => v) W4' w3.heap.size 3 (outF (.int .i64 M.W) (.int .i64 M.H) (.slice o3 nM k3)) := by rw [hW4']; exact outF_new w3 _ _ _ _
        have hb34 : Below w3.heap.size w3 W4' := by rw [hW4']; exact balloc (Below.refl _ w3) _
        have hb4 : Below w2.heap.size w2 W4' := bthen hb3 hb34
        have hz34 : w3.heap.size < W4'.heap.size := by rw [hW4']; simp
        have HX4 : Hid (PxAt W4' o3 nM k3 (listI M)) := (OwnPx.at hown3).below hb34
        have HW4' := Lib.hid hW4'
        have HG4 := Lib.hid hg4
        have HB4' := Lib.hid hb4
        have HZ4' := Lib.hid hz34
        have HNM := Lib.hid hnM
        have HT4' := Lib.hid (HTB.out.below hb4 (by have := HLT.out; omega))
        clear hW4' hg4 hb34 hb4 hz34 hown3 hb3 hnM
        dsimp only
        go_upto_region 20 with fail
        rw [← HW4'.out]
        clear HW4'
        have c0 : W4'.cell? ⟨w.heap.size, 0, none⟩ = some (.int .i64 L.sc.cols) := HT4'.out.at' 0 (by omega)
        have c1 : W4'.cell? ⟨w.heap.size, 1, none⟩ = some (.int .i64 L.sc.rows) := HT4'.out.at' 1 (by omega)
        have c2 : W4'.cell? ⟨w.heap.size, 2, none⟩ = some (.slice os m cs) := HT4'.out.at' 2 (by omega)
        have c3 : W4'.cell? ⟨w.heap.size, 3, none⟩ = some (.int .i64 L.w) := HT4'.out.at' 3 (by omega)
        have c4 : W4'.cell? ⟨w.heap.size, 4, none⟩ = some (.int .i64 L.h) := HT4'.out.at' 4 (by omega)
        have c5 : W4'.cell? ⟨w.heap.size, 5, none⟩ = some (.int .i64 L.head) := HT4'.out.at' 5 (by omega)
        have c6 : W4'.cell? ⟨w.heap.size, 6, none⟩ = some (.int .i64 L.fore) := HT4'.out.at' 6 (by omega)
        have c7 : W4'.cell? ⟨w.heap.size, 7, none⟩ = some (.int .i64 L.spine) := HT4'.out.at' 7 (by omega)
        have c8 : W4'.cell? ⟨w.heap.size, 8, none⟩ = some (.int .i64 L.margin) := HT4'.out.at' 8 (by omega)
        have c9 : W4'.cell? ⟨w.heap.size, 9, none⟩ = some (.int .i64 L.creep) := HT4'.out.at' 9 (by omega)
        have c10 : W4'.cell? ⟨w.heap.size, 10, none⟩ = some (.int .i64 1) := HT4'.out.at' 10 (by omega)
        have HIB := Lib.hid (HIP.out W4' true (HBT.out.trans (HB4'.out.mono HBT.out.size)) (HPG.out.high (HighZ.ofBelow HB4'.out)))
        clear HIP
        go_wp2_with fail
        refine HIB.out.mono ?_
        intro e w5 hret
        clear c0 c1 c2 c3 c4 c5 c6 c7 c8 c9 c10 HIB
        obtain ⟨o5, k5, he, hown5, hb5⟩ := hret
        obtain ⟨nP, hnP⟩ : ∃ q, q = (listI P).length := ⟨_, rfl⟩
        have he' : e = .returned (.tuple #[.agg #[.int .i64 P.W, .int .i64 P.H, .slice o5 nP k5], .int .i64 0]) := by rw [hnP]; exact he
        subst he'
        clear he
        have hown5 : OwnPx w5 W4'.heap.size (.slice o5 (listI P).length k5) (listI P) := hown5
        rw [← hnP] at hown5
        obtain ⟨W6, hW6⟩ : ∃ W, W = w5.alloc (.cells #[.int .i64 P.W, .int .i64 P.H, .slice o5 nP k5] 37) := ⟨_, rfl⟩
        have hg6 : FTab (fun v : Value => v) W6 w5.heap.size 3 (outF (.int .i64 P.W) (.int .i64 P.H) (.slice o5 nP k5)) := by rw [hW6]; exact outF_new w5 _ _ _ _
        have hb56 : Below w5.heap.size w5 W6 := by rw [hW6]; exact balloc (Below.refl _ w5) _
        have hb6 : Below W4'.heap.size W4' W6 := bthen hb5 hb56
        have HX6 : Hid (PxAt W6 o5 nP k5 (listI P)) := (OwnPx.at hown5).below hb56
        have HW6 := Lib.hid hW6
        have HB6 := Lib.hid hb6
        have hg4 := HG4.out.below hb6 HZ4'.out
        have HCT : Hid (Calls Try.prog 11 #[.agg #[.int .i64 M.W, .int .i64 M.H, .slice o3 nM k3], .agg #[.int .i64 P.W, .int .i64 P.H, .slice o5 nP k5], .int .i64 1] W6 (RetCut (ss1 L x gs) W6)) := by
          have h := cut1_any M P HMS.out HPW.out.1 HPW.out.2 (oW L) HV1.out.1 HV1.out.2 o3 o5 k3 k5 W6 (by rw [← HNM.out]; exact HX4.out.below hb6) (by rw [← hnP]; exact HX6.out)
          rw [← HNM.out, ← hnP] at h
          rw [HSS.out]
          exact h
        have e0 : W6.cell? ⟨w3.heap.size, 0, none⟩ = some (.int .i64 M.W) := hg4.at' 0 (by omega)
        have e1 : W6.cell? ⟨w3.heap.size, 1, none⟩ = some (.int .i64 M.H) := hg4.at' 1 (by omega)
        have e2 : W6.cell? ⟨w3.heap.size, 2, none⟩ = some (.slice o3 nM k3) := hg4.at' 2 (by omega)
        have f0 : W6.cell? ⟨w5.heap.size, 0, none⟩ = some (.int .i64 P.W) := hg6.at' 0 (by omega)
        have f1 : W6.cell? ⟨w5.heap.size, 1, none⟩ = some (.int .i64 P.H) := hg6.at' 1 (by omega)
        have f2 : W6.cell? ⟨w5.heap.size, 2, none⟩ = some (.slice o5 nP k5) := hg6.at' 2 (by omega)
        clear hW6 hg6 hg4 hb56 hb6 hb5 hown5 hnP
        dsimp only
        go_upto_region 21 with fail
        rw [← HW6.out]
        clear HW6
        go_wp2_with fail
        refine HCT.out.mono ?_
        intro e w7 hret
        clear e0 e1 e2 f0 f1 f2 HCT
        obtain ⟨us7, o7, q7, he, hrow, hle, hb7, hfr⟩ := hret
        have he' : e = .returned (.tuple #[.slice o7 2 q7, .int .i64 0]) := he
        subst he'
        clear he
        have hbt7 : Below w2.heap.size w2 w7 := bthen HB4'.out (bthen HB6.out hb7)
        have ha7 := HARR.out.below hbt7 HLT.out.2
        have ht7 := HTB.out.below hbt7 (by have := HLT.out; omega)
        have sz6 : w2.heap.size ≤ W6.heap.size := (bthen HB4'.out HB6.out).size
        have g0 : w7.cell? ⟨b5, 1, none⟩ = some (.slice none 0 0) := ha7.at' 1 (by omega)
        have gf := ha7.fz 1
        obtain ⟨w8, hw8⟩ : ∃ w8, w8 = w7.setCell ⟨b5, 1, none⟩ (.slice o7 2 q7) := ⟨_, rfl⟩
        have hh8 : HighZ (b5 + 1) w7 w8 := by rw [hw8]; exact HighZ.setCell w7 (by omega) _
        have HNX : Hid (∃ v0 v1 v2, TR w w8 b5 L os m cs (.slice o6 n6 q6) v0 v1 v2 ∧ TD (b5 + 1) L w8 (.slice o6 n6 q6) v0 v1 v2 2) := by
          have hh : HighZ (b5 + 1) w2 w8 := (HighZ.ofBelow hbt7).trans hh8
          have hnew : ShS (b5 + 1) w8 (.slice o7 2 q7) (ss1 L x gs) := ShS.high ⟨o7, q7, us7, rfl, hrow, ⟨fun a e => Nat.le_trans HLT.out.2 (Nat.le_trans sz6 (hfr.1 a e)), fun u hu g hg => Nat.le_trans HLT.out.2 (Nat.le_trans sz6 (hfr.2 u hu g hg))⟩, hle⟩ hh8
          refine ⟨v0, (.slice o7 2 q7), (.slice none 0 0), ⟨?_, ⟨1, ?_⟩, ?_, ?_⟩, x, gs, HG0.out, HOK.out, HPG.out.high hh, HS0.out.high hh, hnew, rfl⟩
          · rw [hw8]; exact (HBT.out.trans (hbt7.mono HBT.out.size)).setCell (p := ⟨b5, 1, none⟩) (by have := HLT.out; show _ ≤ b5; omega) _
          · rw [hw8]; exact ht7.other (b := b5) (by have := HLT.out; omega) _
          · rw [hw8]; exact (ha7.set (i := 1) (by omega) (.slice o7 2 q7)).congr fun i hi => match i, hi with
              | 0, _ => rfl
              | 1, _ => rfl
              | 2, _ => rfl
          · rw [hw8]; exact ⟨HLT.out.1, by have := HLT.out; have := hbt7.size; simp; omega⟩
        have HW8 := Lib.hid hw8
        clear hrow hle hb7 hfr hbt7 ha7 ht7 hw8 hh8 sz6
        dsimp only
        go_upto_region 25 with fail
        rw [← HW8.out]
        clear HW8 g0 gf
        go_wp2_with fail
        go_roundw
        case rel => exact ⟨2, by omega, by go_num, HNX⟩
        case measure => simp [intOf]
      · have hne : (c != 0) = true := by simpa using hc
        have HF := Lib.hid (HBB.out.trans (hb2.mono HBB.out.size))
        clear hc hiff hb2
        go_wp2_with fail
        go_ret
        exact ⟨rfl, HF.out⟩
    · obtain ⟨x, gs, hg0, hok, hpg, hs0, hs1, rfl⟩ := hd
      obtain ⟨o6, q6, hv6, -⟩ := hpg.at
      obtain ⟨n6, hn6⟩ : ∃ q, q = gs.length := ⟨_, rfl⟩
      rw [← hn6] at hv6
      subst hv6
      have HN6 := Lib.hid hn6
      have HG0 := Lib.hid hg0
      have HOK := Lib.hid hok
      clear hn6 hg0 hok
      obtain ⟨sy, hty⟩ := ht.tab
      have c10 : wa.cell? ⟨w.heap.size, 10, none⟩ = some (.int .i64 sy) := hty.at' 10 (by omega)
      have cf := hty.fz 10
      obtain ⟨wb, hwb⟩ : ∃ wb, wb = wa.setCell ⟨w.heap.size, 10, none⟩ (.int .i64 2) := ⟨_, rfl⟩
      have htb : FTab (fun v : Value => v) wb w.heap.size 11 (layF (st L 2) os m cs) := by
        rw [hwb]
        exact (hty.set (i := 10) (by omega) (.int .i64 2)).congr (layF_congr rfl rfl rfl rfl rfl rfl rfl rfl rfl rfl rfl)
      have hlt := ht.lt
      have hab : FTab (fun v : Value => v) wb b5 3 (outF (v0) (v1) (.slice none 0 0)) := by rw [hwb]; exact ht.arr.other (b := w.heap.size) (by omega) _
      have hbb : Below w.heap.size w wb := by rw [hwb]; exact ht.bel.setCell (p := ⟨w.heap.size, 10, none⟩) (Nat.le_refl _) _
      have hlb : w.heap.size < b5 ∧ b5 < wb.heap.size := by rw [hwb]; exact ⟨hlt.1, by simp; exact hlt.2⟩
      have hhz : HighZ (b5 + 1) wa wb := by rw [hwb]; exact HighZ.setCell wa (by omega) _
      have HWB := Lib.hid hwb
      have HTBb := Lib.hid htb
      have HAB := Lib.hid hab
      have HBB := Lib.hid hbb
      have HLB := Lib.hid hlb
      have HPGb := Lib.hid (hpg.high hhz)
      have HS0b := Lib.hid (hs0.high hhz)
      clear hpg hs0
      have HS1b := Lib.hid (hs1.high hhz)
      clear hs1
      clear hwb htb hab hbb hlb hhz hty ht hlt
      go_upto_region 10 with fail
      rw [← HWB.out]
      clear HWB c10 cf
      have c0 : wb.cell? ⟨w.heap.size, 0, none⟩ = some (.int .i64 L.sc.cols) := HTBb.out.at' 0 (by omega)
      have c1 : wb.cell? ⟨w.heap.size, 1, none⟩ = some (.int .i64 L.sc.rows) := HTBb.out.at' 1 (by omega)
      have c2 : wb.cell? ⟨w.heap.size, 2, none⟩ = some (.slice os m cs) := HTBb.out.at' 2 (by omega)
      have c3 : wb.cell? ⟨w.heap.size, 3, none⟩ = some (.int .i64 L.w) := HTBb.out.at' 3 (by omega)
      have c4 : wb.cell? ⟨w.heap.size, 4, none⟩ = some (.int .i64 L.h) := HTBb.out.at' 4 (by omega)
      have c5 : wb.cell? ⟨w.heap.size, 5, none⟩ = some (.int .i64 L.head) := HTBb.out.at' 5 (by omega)
      have c6 : wb.cell? ⟨w.heap.size, 6, none⟩ = some (.int .i64 L.fore) := HTBb.out.at' 6 (by omega)
      have c7 : wb.cell? ⟨w.heap.size, 7, none⟩ = some (.int .i64 L.spine) := HTBb.out.at' 7 (by omega)
      have c8 : wb.cell? ⟨w.heap.size, 8, none⟩ = some (.int .i64 L.margin) := HTBb.out.at' 8 (by omega)
      have c9 : wb.cell? ⟨w.heap.size, 9, none⟩ = some (.int .i64 L.creep) := HTBb.out.at' 9 (by omega)
      have c10 : wb.cell? ⟨w.heap.size, 10, none⟩ = some (.int .i64 2) := HTBb.out.at' 10 (by omega)
      have HCK : Hid (Calls Try.prog 7 #[.agg #[.int .i64 L.sc.cols, .int .i64 L.sc.rows, .slice os m cs, .int .i64 L.w, .int .i64 L.h, .int .i64 L.head, .int .i64 L.fore, .int .i64 L.spine, .int .i64 L.margin, .int .i64 L.creep, .int .i64 2]] wb (RetCode (GoodL (st L 2)) wb)) := by
        have h := icheck_any (st L 2) os cs wb (HST.out wb 2 HBB.out)
        have e1 : (st L 2).sc.steps.length = m := HML.out
        rw [e1] at h
        exact h
      go_wp2_with fail
      refine HCK.out.mono ?_
      intro e w2 hret
      obtain ⟨c, rfl, hiff, hb2⟩ := hret
      clear c0 c1 c2 c3 c4 c5 c6 c7 c8 c9 c10 HCK
      by_cases hc : c = 0
      · subst hc
        obtain ⟨x', hx'⟩ := hiff.1 rfl
        obtain rfl := good_same HG0.out hx'
        have HGS := Lib.hid hx'
        have HBT2 := Lib.hid (HBB.out.trans (hb2.mono HBB.out.size))
        have HTB2 := Lib.hid (HTBb.out.below hb2 (by have := HLB.out; omega))
        have HARR2 := Lib.hid (HAB.out.below hb2 HLB.out.2)
        have HLT2 : Hid (w.heap.size < b5 ∧ b5 < w2.heap.size) := ⟨HLB.out.1, by have := HLB.out; have := hb2.size; omega⟩
        have HPG := Lib.hid (HPGb.out.high (HighZ.ofBelow hb2))
        have HS0 := Lib.hid (HS0b.out.high (HighZ.ofBelow hb2))
        clear HPGb HS0b
        have HS1 := Lib.hid (HS1b.out.high (HighZ.ofBelow hb2))
        clear HS1b
        clear hb2 hx' hiff HBB HTBb HAB HLB
        obtain ⟨HBT, HTB, HARR, HLT⟩ : ∃ (_ : Hid (Below w.heap.size w w2)) (_ : Hid (FTab (fun v : Value => v) w2 w.heap.size 11 (layF (st L 2) os m cs))) (_ : Hid (FTab (fun v : Value => v) w2 b5 3 (outF (v0) (v1) (.slice none 0 0)))), Hid (w.heap.size < b5 ∧ b5 < w2.heap.size) := ⟨HBT2, HTB2, HARR2, HLT2⟩
        clear HBT2 HTB2 HARR2 HLT2
        have c0 : w2.cell? ⟨w.heap.size, 0, none⟩ = some (.int .i64 L.sc.cols) := HTB.out.at' 0 (by omega)
        have c1 : w2.cell? ⟨w.heap.size, 1, none⟩ = some (.int .i64 L.sc.rows) := HTB.out.at' 1 (by omega)
        have c2 : w2.cell? ⟨w.heap.size, 2, none⟩ = some (.slice os m cs) := HTB.out.at' 2 (by omega)
        have c3 : w2.cell? ⟨w.heap.size, 3, none⟩ = some (.int .i64 L.w) := HTB.out.at' 3 (by omega)
        have c4 : w2.cell? ⟨w.heap.size, 4, none⟩ = some (.int .i64 L.h) := HTB.out.at' 4 (by omega)
        have c5 : w2.cell? ⟨w.heap.size, 5, none⟩ = some (.int .i64 L.head) := HTB.out.at' 5 (by omega)
        have c6 : w2.cell? ⟨w.heap.size, 6, none⟩ = some (.int .i64 L.fore) := HTB.out.at' 6 (by omega)
        have c7 : w2.cell? ⟨w.heap.size, 7, none⟩ = some (.int .i64 L.spine) := HTB.out.at' 7 (by omega)
        have c8 : w2.cell? ⟨w.heap.size, 8, none⟩ = some (.int .i64 L.margin) := HTB.out.at' 8 (by omega)
        have c9 : w2.cell? ⟨w.heap.size, 9, none⟩ = some (.int .i64 L.creep) := HTB.out.at' 9 (by omega)
        have c10 : w2.cell? ⟨w.heap.size, 10, none⟩ = some (.int .i64 2) := HTB.out.at' 10 (by omega)
        obtain ⟨M, hM⟩ : ∃ M, M = frI (st L 2) x gs := ⟨_, rfl⟩
        obtain ⟨P, hP⟩ : ∃ P, P = bkI (st L 2) x gs := ⟨_, rfl⟩
        have hsz := fr_sized HGS.out gs
        have hfs := fr_size (st L 2) x gs
        rw [← hM, ← hP] at hsz hfs
        have HPW : Hid (P.W = M.W ∧ P.H = M.H) := ⟨by rw [hfs.1, hfs.2.2.1], by rw [hfs.2.1, hfs.2.2.2]⟩
        have HMS := Lib.hid hsz.1
        have HV2 : Hid (1 ≤ oH L ∧ M.H = 2 * oH L) := by
          have hp := one_pos HG0.out
          have h1 : 1 ≤ oneH L := hp.2
          have h2 : M.H = (oneH L * 2).toNat := hfs.2.1
          show 1 ≤ (oneH L).toNat ∧ M.H = 2 * (oneH L).toNat
          omega
        have HIP : Hid (∀ W (back : Bool), Below w.heap.size w W → PgS (b5 + 1) W (.slice o6 n6 q6) gs → Calls Try.prog 10 #[.agg #[.int .i64 L.sc.cols, .int .i64 L.sc.rows, .slice os m cs, .int .i64 L.w, .int .i64 L.h, .int .i64 L.head, .int .i64 L.fore, .int .i64 L.spine, .int .i64 L.margin, .int .i64 L.creep, .int .i64 2], .slice o6 n6 q6, .bool back, .bool false] W (RetGrid0 (if back then P else M) W)) := fun W back hbW hpW => by
          obtain ⟨o', c', e', hpl⟩ := hpW.at
          simp only [Value.slice.injEq] at e'
          obtain ⟨rfl, -, rfl⟩ := e'
          have h := ipl_any (st L 2) x HGS.out os cs gs ⟨HOK.out.W, HOK.out.H⟩ HOK.out.n o6 q6 back W (HST.out W 2 hbW) hpl
          have e1 : (st L 2).sc.steps.length = m := HML.out
          rw [e1] at h
          have h2 : Calls Try.prog 10 #[.agg #[.int .i64 L.sc.cols, .int .i64 L.sc.rows, .slice os m cs, .int .i64 L.w, .int .i64 L.h, .int .i64 L.head, .int .i64 L.fore, .int .i64 L.spine, .int .i64 L.margin, .int .i64 L.creep, .int .i64 2], .slice o6 gs.length q6, .bool back, .bool false] W (RetGrid0 (if back then P else M) W) := by
            rw [hM, hP]
            cases back with
            | false => exact h
            | true => exact h
          rw [← HN6.out] at h2
          exact h2
        have HSS : Hid (ss2 L x gs = cutS2 M P (oH L)) := by
          show _ = _
          rw [hM, hP]; rfl
        have HIF := Lib.hid (HIP.out w2 false HBT.out HPG.out)
        have HM := Lib.hid (And.intro hM hP)
        clear hM hP hsz hfs
        go_wp2_with fail
        refine HIF.out.mono ?_
        intro e w3 hret
        clear c0 c1 c2 c3 c4 c5 c6 c7 c8 c9 c10 HIF
        obtain ⟨o3, k3, he, hown3, hb3⟩ := hret
        obtain ⟨nM, hnM⟩ : ∃ q, q = (listI M).length := ⟨_, rfl⟩
        have he' : e = .returned (.tuple #[.agg #[.int .i64 M.W, .int .i64 M.H, .slice o3 nM k3], .int .i64 0]) := by rw [hnM]; exact he
        subst he'
        clear he
        have hown3 : OwnPx w3 w2.heap.size (.slice o3 (listI M).length k3) (listI M) := hown3
        rw [← hnM] at hown3
        obtain ⟨W4', hW4'⟩ : ∃ W, W = w3.alloc (.cells #[.int .i64 M.W, .int .i64 M.H, .slice o3 nM k3] 37) := ⟨_, rfl⟩
        have hg4 : FTab (fun v : Value => v) W4' w3.heap.size 3 (outF (.int .i64 M.W) (.int .i64 M.H) (.slice o3 nM k3)) := by rw [hW4']; exact outF_new w3 _ _ _ _
        have hb34 : Below w3.heap.size w3 W4' := by rw [hW4']; exact balloc (Below.refl _ w3) _
        have hb4 : Below w2.heap.size w2 W4' := bthen hb3 hb34
        have hz34 : w3.heap.size < W4'.heap.size := by rw [hW4']; simp
        have HX4 : Hid (PxAt W4' o3 nM k3 (listI M)) := (OwnPx.at hown3).below hb34
        have HW4' := Lib.hid hW4'
        have HG4 := Lib.hid hg4
        have HB4' := Lib.hid hb4
        have HZ4' := Lib.hid hz34
        have HNM := Lib.hid hnM
        have HT4' := Lib.hid (HTB.out.below hb4 (by have := HLT.out; omega))
        clear hW4' hg4 hb34 hb4 hz34 hown3 hb3 hnM
        dsimp only
        go_upto_region 20 with fail
        rw [← HW4'.out]
        clear HW4'
        have c0 : W4'.cell? ⟨w.heap.size, 0, none⟩ = some (.int .i64 L.sc.cols) := HT4'.out.at' 0 (by omega)
        have c1 : W4'.cell? ⟨w.heap.size, 1, none⟩ = some (.int .i64 L.sc.rows) := HT4'.out.at' 1 (by omega)
        have c2 : W4'.cell? ⟨w.heap.size, 2, none⟩ = some (.slice os m cs) := HT4'.out.at' 2 (by omega)
        have c3 : W4'.cell? ⟨w.heap.size, 3, none⟩ = some (.int .i64 L.w) := HT4'.out.at' 3 (by omega)
        have c4 : W4'.cell? ⟨w.heap.size, 4, none⟩ = some (.int .i64 L.h) := HT4'.out.at' 4 (by omega)
        have c5 : W4'.cell? ⟨w.heap.size, 5, none⟩ = some (.int .i64 L.head) := HT4'.out.at' 5 (by omega)
        have c6 : W4'.cell? ⟨w.heap.size, 6, none⟩ = some (.int .i64 L.fore) := HT4'.out.at' 6 (by omega)
        have c7 : W4'.cell? ⟨w.heap.size, 7, none⟩ = some (.int .i64 L.spine) := HT4'.out.at' 7 (by omega)
        have c8 : W4'.cell? ⟨w.heap.size, 8, none⟩ = some (.int .i64 L.margin) := HT4'.out.at' 8 (by omega)
        have c9 : W4'.cell? ⟨w.heap.size, 9, none⟩ = some (.int .i64 L.creep) := HT4'.out.at' 9 (by omega)
        have c10 : W4'.cell? ⟨w.heap.size, 10, none⟩ = some (.int .i64 2) := HT4'.out.at' 10 (by omega)
        have HIB := Lib.hid (HIP.out W4' true (HBT.out.trans (HB4'.out.mono HBT.out.size)) (HPG.out.high (HighZ.ofBelow HB4'.out)))
        clear HIP
        go_wp2_with fail
        refine HIB.out.mono ?_
        intro e w5 hret
        clear c0 c1 c2 c3 c4 c5 c6 c7 c8 c9 c10 HIB
        obtain ⟨o5, k5, he, hown5, hb5⟩ := hret
        obtain ⟨nP, hnP⟩ : ∃ q, q = (listI P).length := ⟨_, rfl⟩
        have he' : e = .returned (.tuple #[.agg #[.int .i64 P.W, .int .i64 P.H, .slice o5 nP k5], .int .i64 0]) := by rw [hnP]; exact he
        subst he'
        clear he
        have hown5 : OwnPx w5 W4'.heap.size (.slice o5 (listI P).length k5) (listI P) := hown5
        rw [← hnP] at hown5
        obtain ⟨W6, hW6⟩ : ∃ W, W = w5.alloc (.cells #[.int .i64 P.W, .int .i64 P.H, .slice o5 nP k5] 37) := ⟨_, rfl⟩
        have hg6 : FTab (fun v : Value => v) W6 w5.heap.size 3 (outF (.int .i64 P.W) (.int .i64 P.H) (.slice o5 nP k5)) := by rw [hW6]; exact outF_new w5 _ _ _ _
        have hb56 : Below w5.heap.size w5 W6 := by rw [hW6]; exact balloc (Below.refl _ w5) _
        have hb6 : Below W4'.heap.size W4' W6 := bthen hb5 hb56
        have HX6 : Hid (PxAt W6 o5 nP k5 (listI P)) := (OwnPx.at hown5).below hb56
        have HW6 := Lib.hid hW6
        have HB6 := Lib.hid hb6
        have hg4 := HG4.out.below hb6 HZ4'.out
        have HCT : Hid (Calls Try.prog 11 #[.agg #[.int .i64 M.W, .int .i64 M.H, .slice o3 nM k3], .agg #[.int .i64 P.W, .int .i64 P.H, .slice o5 nP k5], .int .i64 2] W6 (RetCut (ss2 L x gs) W6)) := by
          have h := cut2_any M P HMS.out HPW.out.1 HPW.out.2 (oH L) HV2.out.1 HV2.out.2 o3 o5 k3 k5 W6 (by rw [← HNM.out]; exact HX4.out.below hb6) (by rw [← hnP]; exact HX6.out)
          rw [← HNM.out, ← hnP] at h
          rw [HSS.out]
          exact h
        have e0 : W6.cell? ⟨w3.heap.size, 0, none⟩ = some (.int .i64 M.W) := hg4.at' 0 (by omega)
        have e1 : W6.cell? ⟨w3.heap.size, 1, none⟩ = some (.int .i64 M.H) := hg4.at' 1 (by omega)
        have e2 : W6.cell? ⟨w3.heap.size, 2, none⟩ = some (.slice o3 nM k3) := hg4.at' 2 (by omega)
        have f0 : W6.cell? ⟨w5.heap.size, 0, none⟩ = some (.int .i64 P.W) := hg6.at' 0 (by omega)
        have f1 : W6.cell? ⟨w5.heap.size, 1, none⟩ = some (.int .i64 P.H) := hg6.at' 1 (by omega)
        have f2 : W6.cell? ⟨w5.heap.size, 2, none⟩ = some (.slice o5 nP k5) := hg6.at' 2 (by omega)
        clear hW6 hg6 hg4 hb56 hb6 hb5 hown5 hnP
        dsimp only
        go_upto_region 21 with fail
        rw [← HW6.out]
        clear HW6
        go_wp2_with fail
        refine HCT.out.mono ?_
        intro e w7 hret
        clear e0 e1 e2 f0 f1 f2 HCT
        obtain ⟨us7, o7, q7, he, hrow, hle, hb7, hfr⟩ := hret
        have he' : e = .returned (.tuple #[.slice o7 2 q7, .int .i64 0]) := he
        subst he'
        clear he
        have hbt7 : Below w2.heap.size w2 w7 := bthen HB4'.out (bthen HB6.out hb7)
        have ha7 := HARR.out.below hbt7 HLT.out.2
        have ht7 := HTB.out.below hbt7 (by have := HLT.out; omega)
        have sz6 : w2.heap.size ≤ W6.heap.size := (bthen HB4'.out HB6.out).size
        have g0 : w7.cell? ⟨b5, 2, none⟩ = some (.slice none 0 0) := ha7.at' 2 (by omega)
        have gf := ha7.fz 2
        obtain ⟨w8, hw8⟩ : ∃ w8, w8 = w7.setCell ⟨b5, 2, none⟩ (.slice o7 2 q7) := ⟨_, rfl⟩
        have hh8 : HighZ (b5 + 1) w7 w8 := by rw [hw8]; exact HighZ.setCell w7 (by omega) _
        have HNX : Hid (∃ v0 v1 v2, TR w w8 b5 L os m cs (.slice o6 n6 q6) v0 v1 v2 ∧ TD (b5 + 1) L w8 (.slice o6 n6 q6) v0 v1 v2 3) := by
          have hh : HighZ (b5 + 1) w2 w8 := (HighZ.ofBelow hbt7).trans hh8
          have hnew : ShS (b5 + 1) w8 (.slice o7 2 q7) (ss2 L x gs) := ShS.high ⟨o7, q7, us7, rfl, hrow, ⟨fun a e => Nat.le_trans HLT.out.2 (Nat.le_trans sz6 (hfr.1 a e)), fun u hu g hg => Nat.le_trans HLT.out.2 (Nat.le_trans sz6 (hfr.2 u hu g hg))⟩, hle⟩ hh8
          refine ⟨v0, v1, (.slice o7 2 q7), ⟨?_, ⟨2, ?_⟩, ?_, ?_⟩, x, gs, HG0.out, HOK.out, HPG.out.high hh, HS0.out.high hh, HS1.out.high hh, hnew⟩
          · rw [hw8]; exact (HBT.out.trans (hbt7.mono HBT.out.size)).setCell (p := ⟨b5, 2, none⟩) (by have := HLT.out; show _ ≤ b5; omega) _
          · rw [hw8]; exact ht7.other (b := b5) (by have := HLT.out; omega) _
          · rw [hw8]; exact (ha7.set (i := 2) (by omega) (.slice o7 2 q7)).congr fun i hi => match i, hi with
              | 0, _ => rfl
              | 1, _ => rfl
              | 2, _ => rfl
          · rw [hw8]; exact ⟨HLT.out.1, by have := HLT.out; have := hbt7.size; simp; omega⟩
        have HW8 := Lib.hid hw8
        clear hrow hle hb7 hfr hbt7 ha7 ht7 hw8 hh8 sz6
        dsimp only
        go_upto_region 25 with fail
        rw [← HW8.out]
        clear HW8 g0 gf
        go_wp2_with fail
        go_roundw
        case rel => exact ⟨3, by omega, by go_num, HNX⟩
        case measure => simp [intOf]
      · have hne : (c != 0) = true := by simpa using hc
        have HF := Lib.hid (HBB.out.trans (hb2.mono HBB.out.size))
        clear hc hiff hb2
        go_wp2_with fail
        go_ret
        exact ⟨rfl, HF.out⟩
    · obtain ⟨x, gs, hg0, hok, hpg, hs0, hs1, hs2⟩ := hd
      have SAME := Lib.hid (turns_law hg0 hok.W hok.H)
      have hsz := fr_sized hg0 gs
      obtain ⟨M0, hM0⟩ : ∃ M, M = cropI (frI (st L 0) x gs) 0 0 (frI (st L 0) x gs).W (frI (st L 0) x gs).H := ⟨_, rfl⟩
      obtain ⟨P0, hP0⟩ : ∃ M, M = cropI (bkI (st L 0) x gs) 0 0 (frI (st L 0) x gs).W (frI (st L 0) x gs).H := ⟨_, rfl⟩
      have hsM : Sized M0 := by rw [hM0]; exact hsz.1
      have hsP : Sized P0 := by rw [hP0]; exact hsz.1
      rw [← hM0, ← hP0] at SAME
      have h00 : ss0 L x gs = [(M0, P0)] := by rw [hM0, hP0]; rfl
      rw [h00] at hs0
      obtain ⟨o0, k0, us0, hv0, hr0, -, -⟩ := hs0
      obtain ⟨o1, k1, us1, hv1, hr1, -, hk1⟩ := hs1
      obtain ⟨o2, k2, us2, hv2, hr2, -, hk2⟩ := hs2
      have hl1 : (ss1 L x gs).length = 2 := rfl
      have hl2 : (ss2 L x gs).length = 2 := rfl
      have hv0' : v0 = .slice o0 1 k0 := hv0
      have hv1' : v1 = .slice o1 2 k1 := hv1
      have hv2' : v2 = .slice o2 2 k2 := hv2
      subst hv0' hv1' hv2'
      obtain ⟨S1, hS1⟩ : ∃ S, S = ss1 L x gs := ⟨_, rfl⟩
      obtain ⟨S2, hS2⟩ : ∃ S, S = ss2 L x gs := ⟨_, rfl⟩
      rw [← hS1] at hr1 hl1 SAME
      rw [← hS2] at hr2 hl2 SAME
      have a0 : wa.cell? ⟨b5, 0, none⟩ = some (.slice o0 1 k0) := ht.arr.at' 0 (by omega)
      have a1 : wa.cell? ⟨b5, 1, none⟩ = some (.slice o1 2 k1) := ht.arr.at' 1 (by omega)
      have a2 : wa.cell? ⟨b5, 2, none⟩ = some (.slice o2 2 k2) := ht.arr.at' 2 (by omega)
      obtain ⟨W10, hW10⟩ : ∃ W, W = wa.alloc (.cells #[.slice o1 2 k1, .slice o2 2 k2] 29) := ⟨_, rfl⟩
      have hb10 : Below wa.heap.size wa W10 := by rw [hW10]; exact balloc (Below.refl _ wa) _
      have hu1 : us1.length = 2 := by rw [hr1.len, hl1]
      have hu2 : us2.length = 2 := by rw [hr2.len, hl2]
      have hcc : ∀ (o : Option Addr) (k : Nat) (us : List RawB) (S : List (Img × Img)), RowB wa o us S → S.length = 2 → IsSlice W10 6 encRb (.slice o 2 k) us := fun o k us S hr hl => by
        have hul : us.length = 2 := by rw [hr.len, hl]
        refine ⟨o, k, by rw [hul], fun e => ?_, by rw [hul]; unfold maxLen; omega, hr.flat.below hb10⟩
        obtain ⟨v, hv, b, off, e2, hc⟩ := hr.flat 0 (by omega) 0 (by omega)
        rw [e] at e2; cases e2
      have hrows : Rows1 W10 6 encRb (some ⟨wa.heap.size, 0, none⟩) [us1, us2] := fun i hi => by
        have hc : ∀ q, _ := fun q => cell_of_row W10 wa.heap.size q #[.slice o1 2 k1, .slice o2 2 k2] 29 (0, 0) (by rw [hW10]; exact heap_alloc_new wa _)
        match i, hi with
        | 0, _ => exact ⟨wa.heap.size, 0, .slice o1 2 k1, rfl, (hc 0).trans rfl, hcc o1 k1 us1 S1 hr1 hl1⟩
        | 1, _ => exact ⟨wa.heap.size, 0, .slice o2 2 k2, rfl, (hc 1).trans rfl, hcc o2 k2 us2 S2 hr2 hl2⟩
      have HCC : Hid (Calls Try.prog 12 #[.slice (some ⟨wa.heap.size, 0, none⟩) 2 2] W10 (RetSliceBs [us1, us2].flatten W10)) :=
        concatBs (some ⟨wa.heap.size, 0, none⟩) [us1, us2] 2 W10 (by simp) hrows (by unfold total; simp [hu1, hu2])
      have hfl : [us1, us2].flatten = us1 ++ us2 := by simp
      rw [hfl] at HCC
      have HW10 := Lib.hid hW10
      have HB10 := Lib.hid hb10
      have HR1 := Lib.hid (hr1.below stabB hb10)
      have HR2 := Lib.hid (hr2.below stabB hb10)
      have HR0 := Lib.hid (hr0.below stabB hb10)
      have HAR := Lib.hid (ht.arr.below hb10 ht.lt.2)
      have HBW : Hid (Below w.heap.size w W10) := ht.bel.trans (hb10.mono ht.bel.size)
      have HLZ : Hid (b5 < W10.heap.size) := by have := ht.lt.2; have := hb10.size; show _ < _; omega
      have HUL : Hid ((us1 ++ us2).length = 4 ∧ S1.length = 2 ∧ S2.length = 2 ∧ us1.length = 2) := ⟨by rw [List.length_append]; omega, hl1, hl2, hu1⟩
      have HSZ : Hid (Sized M0 ∧ Sized P0) := ⟨hsM, hsP⟩
      clear hg0 hok hpg hsz hM0 hP0 hsM hsP h00 hv0 hv1 hv2 hr0 hr1 hr2 hk1 hk2 hl1 hl2 hS1 hS2 hW10 hb10 hu1 hu2 hcc hrows hfl ht
      go_upto_region 26 with fail
      go_upto_region 28 with fail
      go_wp2_with (fail)
      rw [← HW10.out]
      refine HCC.out.mono ?_
      intro e w11 hret
      obtain ⟨oa, cap, rfl, -, -, hfl, hb11⟩ := hret.out
      clear HW10 HCC a0 a1 a2 hret
      have hrow : RowB w11 oa (us1 ++ us2) (S1 ++ S2) := by
        have h1 := HR1.out.below stabB hb11
        have h2 := HR2.out.below stabB hb11
        refine ⟨hfl, by rw [List.length_append, List.length_append, h1.len, h2.len], fun i hi hi' => ?_, fun u hu g hg => ?_⟩
        · by_cases hc : i < us1.length
          · rw [List.getElem_append_left hc, List.getElem_append_left (by rw [← h1.len]; exact hc)]
            exact h1.row i hc (by rw [← h1.len]; exact hc)
          · rw [List.getElem_append_right (by omega), List.getElem_append_right (by rw [← h1.len]; omega)]
            have e : S1.length = us1.length := h1.len.symm
            simp only [e]
            exact h2.row _ (by rw [List.length_append] at hi; omega) (by rw [List.length_append] at hi'; omega)
        · rcases List.mem_append.1 hu with h | h
          · exact h1.lt u h g hg
          · exact h2.lt u h g hg
      have HROW := Lib.hid hrow
      have HB11 := Lib.hid hb11
      have HL4 : Hid ((S1 ++ S2).length = 4) := by show _ = _; rw [List.length_append, HUL.out.2.1, HUL.out.2.2.1]
      rw [HUL.out.1]
      clear hrow hb11 hfl
      go_wp2_with fail
      go_loopw [112] (fun i wr => ∃ j : Nat, j ≤ 4 ∧ i = .int .i64 j ∧ Hid (Below w11.heap.size w11 wr)) (fun i _ => 4 - (intOf i).toNat)
      case atStart => exact ⟨0, by omega, rfl, Below.refl _ _⟩
      case round =>
        obtain ⟨j, hj, rfl, HQ⟩ := hrel
        obtain ⟨wq, rfl⟩ : ∃ wq : World, wq = wr := ⟨_, rfl⟩
        by_cases hlt : j < 4
        · have kd : (j : Int) < 4 := by omega
          have hjl : j < (S1 ++ S2).length := by rw [HL4.out]; exact hlt
          obtain ⟨b, off, oF, cF, oB, cB, rfl, e0, e1, e2, e3, e4, e5, pF, pB⟩ := RowB.at (HROW.out.below stabB HQ.out) hjl
          obtain ⟨sM, sP⟩ := SAME.out _ (List.getElem_mem hjl)
          rw [← sM.1] at e0
          rw [← sM.2.1] at e1
          rw [← sM.list] at e2 pF
          rw [← sP.1] at e3
          rw [← sP.2.1] at e4
          rw [← sP.list] at e5 pB
          obtain ⟨nM, hnM⟩ : ∃ q, q = (listI M0).length := ⟨_, rfl⟩
          obtain ⟨nP, hnP⟩ : ∃ q, q = (listI P0).length := ⟨_, rfl⟩
          rw [← hnM] at e2 pF
          rw [← hnP] at e5 pB
          obtain ⟨b0, off0, oF0, cF0, oB0, cB0, rfl, g0, g1, g2, g3, g4, g5, qF, qB⟩ := RowB.at ((HR0.out.below stabB HB11.out).below stabB HQ.out) (i := 0) (by simp)
          have g0 : wq.cell? ⟨b0, off0, none⟩ = some (.int .i64 M0.W) := g0
          have g1 : wq.cell? ⟨b0, off0 + 1, none⟩ = some (.int .i64 M0.H) := by have h := g1; rw [Nat.zero_mul, Nat.add_zero] at h; exact h
          have g2 : wq.cell? ⟨b0, off0 + 2, none⟩ = some (.slice oF0 nM cF0) := by have h := g2; rw [Nat.zero_mul, Nat.add_zero] at h; rw [hnM]; exact h
          have g3 : wq.cell? ⟨b0, off0 + 3, none⟩ = some (.int .i64 P0.W) := by have h := g3; rw [Nat.zero_mul, Nat.add_zero] at h; exact h
          have g4 : wq.cell? ⟨b0, off0 + 3 + 1, none⟩ = some (.int .i64 P0.H) := by have h := g4; rw [Nat.zero_mul, Nat.add_zero] at h; exact h
          have g5 : wq.cell? ⟨b0, off0 + 3 + 2, none⟩ = some (.slice oB0 nP cB0) := by have h := g5; rw [Nat.zero_mul, Nat.add_zero] at h; rw [hnP]; exact h
          have qF : PxAt wq oF0 nM cF0 (listI M0) := by rw [hnM]; exact qF
          have qB : PxAt wq oB0 nP cB0 (listI P0) := by rw [hnP]; exact qB
          have a0 : wq.cell? ⟨b5, 0, none⟩ = some (.slice (some ⟨b0, off0, none⟩) 1 k0) := ((HAR.out.below HB11.out HLZ.out).below HQ.out (by have := HLZ.out; have := HB11.out.size; omega)).at' 0 (by omega)
          obtain ⟨wd, hwd⟩ : ∃ wd, wd = wq.alloc (.cells #[.int .i64 M0.W, .int .i64 M0.H, .slice oF nM cF, .int .i64 P0.W, .int .i64 P0.H, .slice oB nP cB] 45) := ⟨_, rfl⟩
          have hbd : Below wq.heap.size wq wd := by rw [hwd]; exact balloc (Below.refl _ wq) _
          have hcd : ∀ q, wd.cell? ⟨wq.heap.size, q, none⟩ = (#[.int .i64 M0.W, .int .i64 M0.H, .slice oF nM cF, .int .i64 P0.W, .int .i64 P0.H, .slice oB nP cB] : Array Value)[q]? := fun q => cell_of_row wd wq.heap.size q _ 45 (0, 0) (by rw [hwd]; exact heap_alloc_new wq _)
          have HEF : Hid (∀ W, Below wd.heap.size wd W → Calls Try.prog 13 #[.agg #[.int .i64 M0.W, .int .i64 M0.H, .slice oF nM cF], .agg #[.int .i64 M0.W, .int .i64 M0.H, .slice oF0 nM cF0]] W fun e w' => e = .returned (.bool true) ∧ Below W.heap.size W w') := fun W hb => by
            have h := mequal_any M0 HSZ.out.1 oF oF0 cF cF0 W (by rw [← hnM]; exact (pF.below hbd).below hb) (by rw [← hnM]; exact (qF.below hbd).below hb)
            rw [← hnM] at h
            exact h
          have HEB : Hid (∀ W, Below wd.heap.size wd W → Calls Try.prog 13 #[.agg #[.int .i64 P0.W, .int .i64 P0.H, .slice oB nP cB], .agg #[.int .i64 P0.W, .int .i64 P0.H, .slice oB0 nP cB0]] W fun e w' => e = .returned (.bool true) ∧ Below W.heap.size W w') := fun W hb => by
            have h := mequal_any P0 HSZ.out.2 oB oB0 cB cB0 W (by rw [← hnP]; exact (pB.below hbd).below hb) (by rw [← hnP]; exact (qB.below hbd).below hb)
            rw [← hnP] at h
            exact h
          have HS : Hid (∀ W, Below wd.heap.size wd W → Below wd.heap.size wd W ∧ W.cell? ⟨wq.heap.size, 0, none⟩ = some (.int .i64 M0.W) ∧ W.cell? ⟨wq.heap.size, 1, none⟩ = some (.int .i64 M0.H) ∧ W.cell? ⟨wq.heap.size, 2, none⟩ = some (.slice oF nM cF) ∧ W.cell? ⟨wq.heap.size, 3, none⟩ = some (.int .i64 P0.W) ∧ W.cell? ⟨wq.heap.size, 4, none⟩ = some (.int .i64 P0.H) ∧ W.cell? ⟨wq.heap.size, 5, none⟩ = some (.slice oB nP cB) ∧ W.cell? ⟨b5, 0, none⟩ = some (.slice (some ⟨b0, off0, none⟩) 1 k0) ∧ W.cell? ⟨b0, off0, none⟩ = some (.int .i64 M0.W) ∧ W.cell? ⟨b0, off0 + 1, none⟩ = some (.int .i64 M0.H) ∧ W.cell? ⟨b0, off0 + 2, none⟩ = some (.slice oF0 nM cF0) ∧ W.cell? ⟨b0, off0 + 3, none⟩ = some (.int .i64 P0.W) ∧ W.cell? ⟨b0, off0 + 3 + 1, none⟩ = some (.int .i64 P0.H) ∧ W.cell? ⟨b0, off0 + 3 + 2, none⟩ = some (.slice oB0 nP cB0)) := fun W hb => ⟨hb, keepCell hb ((hcd 0).trans rfl), keepCell hb ((hcd 1).trans rfl), keepCell hb ((hcd 2).trans rfl), keepCell hb ((hcd 3).trans rfl), keepCell hb ((hcd 4).trans rfl), keepCell hb ((hcd 5).trans rfl), keepCell hb (keepCell hbd a0), keepCell hb (keepCell hbd g0), keepCell hb (keepCell hbd g1), keepCell hb (keepCell hbd g2), keepCell hb (keepCell hbd g3), keepCell hb (keepCell hbd g4), keepCell hb (keepCell hbd g5)⟩
          have HWD := Lib.hid hwd
          have HBD := Lib.hid (bthen HQ.out hbd)
          clear hwd hbd hcd pF pB qF qB sM sP hnM hnP a0 g0 g1 g2 g3 g4 g5 HQ hjl
          go_upto_region 31 with fail
          rw [← HWD.out]
          clear HWD e0 e1 e2 e3 e4 e5
          go_region_held3 (fun W => Below wd.heap.size wd W ∧ W.cell? ⟨wq.heap.size, 0, none⟩ = some (.int .i64 M0.W) ∧ W.cell? ⟨wq.heap.size, 1, none⟩ = some (.int .i64 M0.H) ∧ W.cell? ⟨wq.heap.size, 2, none⟩ = some (.slice oF nM cF) ∧ W.cell? ⟨wq.heap.size, 3, none⟩ = some (.int .i64 P0.W) ∧ W.cell? ⟨wq.heap.size, 4, none⟩ = some (.int .i64 P0.H) ∧ W.cell? ⟨wq.heap.size, 5, none⟩ = some (.slice oB nP cB) ∧ W.cell? ⟨b5, 0, none⟩ = some (.slice (some ⟨b0, off0, none⟩) 1 k0) ∧ W.cell? ⟨b0, off0, none⟩ = some (.int .i64 M0.W) ∧ W.cell? ⟨b0, off0 + 1, none⟩ = some (.int .i64 M0.H) ∧ W.cell? ⟨b0, off0 + 2, none⟩ = some (.slice oF0 nM cF0) ∧ W.cell? ⟨b0, off0 + 3, none⟩ = some (.int .i64 P0.W) ∧ W.cell? ⟨b0, off0 + 3 + 1, none⟩ = some (.int .i64 P0.H) ∧ W.cell? ⟨b0, off0 + 3 + 2, none⟩ = some (.slice oB0 nP cB0))
            (first | (refine HS.out _ ?_; (first | assumption | exact (Below.refl _ wd).drew | go_grown)))
            (first | fail | (go_simp; go_at_call 13; (with_reducible refine (HEF.out _ (And.left (by assumption))).mono ?_); rintro e wx ⟨rfl, hbx⟩; have hzx : Below wd.heap.size wd wx := bthen (And.left (by assumption)) hbx; clear hbx) | (go_simp; go_at_call 13; (with_reducible refine (HEB.out _ (And.left (by assumption))).mono ?_); rintro e wy ⟨rfl, hby⟩; have hzy : Below wd.heap.size wd wy := bthen (And.left (by assumption)) hby; clear hby))
          all_goals
            have HNX := Lib.hid (bthen HBD.out hzy)
            clear HS HEF HEB hzx hzy
            go_wp2_with fail
            go_roundw
            case rel => exact ⟨j + 1, by omega, by go_num, HNX⟩
            case measure => simp [intOf]; omega
        · obtain rfl : 4 = j := by omega
          have HF := Lib.hid (HBW.out.trans (bthen HB11.out HQ.out |>.mono HBW.out.size))
          clear HQ
          go_wp2_with fail
          go_ret
          exact ⟨rfl, HF.out⟩
end Go.Proofs.Ytdblibjmgamjeaa
