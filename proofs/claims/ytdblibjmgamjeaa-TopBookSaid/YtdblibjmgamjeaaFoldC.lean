/-
  The walks of fold's fold (all sides together) and of fold.Check. Own text.
-/
import Derived.Test.YtdblibjmgamjeaaFoldS0
import Derived.Test.YtdblibjmgamjeaaFoldS1
import Derived.Test.YtdblibjmgamjeaaFoldS2
import Derived.Test.YtdblibjmgamjeaaFoldS3
namespace Go.Proofs.Ytdblibjmgamjeaa
open Go.RowKit
set_option linter.unusedVariables false
/-- A sheet within a good layout. -/
structure Mid (sc : Sch) (x : Sht) : Prop where
  inn : SchIn sc
  k : Kept sc x
  c : x.cols ≤ 8
  r : x.rows ≤ 8
theorem Mid.flat {sc : Sch} (h : SchIn sc) : Mid sc (flatV sc) := ⟨h, kept_flat h.1 h.2.2.1, by show sc.cols.toNat ≤ 8; have := h.2.1; omega, by show sc.rows.toNat ≤ 8; have := h.2.2.2.1; omega⟩
theorem Mid.fold {sc : Sch} {x : Sht} {f : Stp} (h : Mid sc x) (hs : StepOk x f) : Mid sc (foldV x f) := by
  obtain ⟨L, hL, hL1, hL2, hS⟩ := size_nat hs
  have hc := h.c
  have hr := h.r
  refine ⟨h.inn, kept_fold h.k hs, ?_, ?_⟩
  · show colsV x f ≤ 8
    unfold colsV
    split
    · rename_i ha
      have e : extV x f = x.cols := by unfold extV; rw [if_pos ha]
      rw [hS]; omega
    · exact hc
  · show rowsV x f ≤ 8
    unfold rowsV
    split
    · exact hr
    · rename_i ha
      have e : extV x f = x.rows := by unfold extV; rw [if_neg ha]
      rw [hS]; omega
theorem Mid.pile {sc : Sch} {x : Sht} (h : Mid sc x) (c r : Int) : (pileV x c r).length ≤ 32 := by
  have h1 := kept_pile h.k c r
  have h2 := (leaves_bd h.inn).2.1
  unfold leavesV at h2
  omega
theorem fold_any (sc : Sch) (x : Sht) (f : Stp) (h : Mid sc x) (hs : StepOk x f) (oa : Option Addr) (cap : Nat) (w : World) (hp : Rows1 w 4 encLeaf oa x.piles) :
    Calls Try.prog 38 #[.agg #[.int .i64 x.cols, .int .i64 x.rows, .slice oa x.piles.length cap], .agg #[.int .i64 f.side, .int .i64 f.line, .bool f.over]] w (RetSht (foldV x f) w) := by
  obtain ⟨L, hL, hL1, hL2, -⟩ := size_nat hs
  obtain ⟨h0, h3, -, -⟩ := hs
  obtain ⟨side, line, over⟩ := f
  simp only at h0 h3 hL
  subst hL
  have hside : side = 0 ∨ side = 1 ∨ side = 2 ∨ side = 3 := by omega
  rcases hside with rfl | rfl | rfl | rfl
  · exact fold_0 x L over h.k.wf hL1 hL2 h.c h.r h.pile oa cap w hp
  · exact fold_1 x L over h.k.wf hL1 hL2 h.c h.r h.pile oa cap w hp
  · exact fold_2 x L over h.k.wf hL1 hL2 h.c h.r h.pile oa cap w hp
  · exact fold_3 x L over h.k.wf hL1 hL2 h.c h.r h.pile oa cap w hp
theorem runF_stop {s x : Sht} {l : List Stp} {k : Nat} (hk : k < l.length) (h : runF s (l.take k) = some x) (hs : ¬ StepOk x l[k]) : runF s l = none := by
  have e : l = (l.take k ++ [l[k]]) ++ l.drop (k + 1) := by rw [← List.take_succ_eq_append_getElem hk, List.take_append_drop]
  rw [e, runF_append, runF_snoc _ _ _ h, if_neg hs]
  rfl
theorem runF_next {s x : Sht} {l : List Stp} {k : Nat} (hk : k < l.length) (h : runF s (l.take k) = some x) (hs : StepOk x l[k]) : runF s (l.take (k + 1)) = some (foldV x l[k]) := by
  rw [List.take_succ_eq_append_getElem hk, runF_snoc _ _ _ h, if_pos hs]
theorem Flat.stp {w : World} {oa : Option Addr} {l : List Stp} (h : Flat w 3 encStp oa l) {i : Nat} (hi : i < l.length) :
    ∃ b off, oa = some ⟨b, off, none⟩ ∧ w.cell? ⟨b, off + i * 3, none⟩ = some (.int .i64 l[i].side) ∧ w.cell? ⟨b, off + i * 3 + 1, none⟩ = some (.int .i64 l[i].line) ∧ w.cell? ⟨b, off + i * 3 + 2, none⟩ = some (.bool l[i].over) := by
  obtain ⟨v0, h0, b, off, e0, c0⟩ := h i hi 0 (by omega)
  obtain ⟨v1, h1, b1, off1, e1, c1⟩ := h i hi 1 (by omega)
  obtain ⟨v2, h2, b2, off2, e2, c2⟩ := h i hi 2 (by omega)
  rw [e0] at e1 e2
  simp only [Option.some.injEq, Addr.mk.injEq, and_true] at e1 e2
  obtain ⟨rfl, rfl⟩ := e1
  obtain ⟨rfl, rfl⟩ := e2
  simp only [encStp, List.getElem?_cons_zero, List.getElem?_cons_succ, Option.some.injEq] at h0 h1 h2
  subst h0 h1 h2
  exact ⟨b, off, e0, c0, c1, c2⟩
/-- Piles that do not lie in block b, nor below block Z. -/
def PilesF (Z b : Nat) (w : World) (oa : Option Addr) (ps : List (List Leaf)) : Prop := ∃ us, RowsV encV blkV PileR 1 w oa us ps ∧ (∀ a, oa = some a → a.block ≠ b ∧ Z ≤ a.block) ∧ ∀ u ∈ us, ∀ g, u.ownBlock = some g → g ≠ b ∧ Z ≤ g
theorem PilesF.rows1 {Z b : Nat} {w : World} {oa : Option Addr} {ps : List (List Leaf)} (h : PilesF Z b w oa ps) : Rows1 w 4 encLeaf oa ps := by
  obtain ⟨us, h1, -, -⟩ := h
  exact h1.rows1
theorem PilesF.below {Z b : Nat} {w w' : World} {oa : Option Addr} {ps : List (List Leaf)} (h : PilesF Z b w oa ps) (hb : Below w.heap.size w w') : PilesF Z b w' oa ps := by
  obtain ⟨us, h1, h2, h3⟩ := h
  exact ⟨us, h1.below stabP hb, h2, h3⟩
theorem PilesF.heap {Z b : Nat} {w w' : World} {oa : Option Addr} {ps : List (List Leaf)} (h : PilesF Z b w oa ps) (hz : w.heap.size ≤ w'.heap.size) (hb : ∀ g, g ≠ b → Z ≤ g → w'.heap[g]? = w.heap[g]?) : PilesF Z b w' oa ps := by
  obtain ⟨us, h1, h2, h3⟩ := h
  refine ⟨us, h1.heap stabP hz fun g hg => ?_, h2, h3⟩
  rcases hg with ⟨a, e, rfl⟩ | ⟨u, hu, hg⟩
  · exact hb _ (h2 a e).1 (h2 a e).2
  · exact hb _ (h3 u hu g hg).1 (h3 u hu g hg).2
theorem PilesN.far {B Z b : Nat} {w : World} {oa : Option Addr} {ps : List (List Leaf)} (h : PilesN B w oa ps) (hb : b < B) (hz : Z ≤ B) : PilesF Z b w oa ps := by
  obtain ⟨us, h1, h2, h3⟩ := h
  exact ⟨us, h1, fun a e => by have := h2 a e; omega, fun u hu g e => by have := h3 u hu g e; omega⟩
theorem PilesN.near {B Z b : Nat} {w : World} {oa : Option Addr} {ps : List (List Leaf)} (h : PilesN B w oa ps) (hb : w.heap.size ≤ b) (hz : Z ≤ B) (hn : 0 < ps.length) : PilesF Z b w oa ps := by
  obtain ⟨us, h1, h2, h3⟩ := h
  refine ⟨us, h1, fun a e => ?_, fun u hu g e => by have h4 := h1.lt u hu g e; have h5 := h3 u hu g e; omega⟩
  obtain ⟨v, -, b', off, e2, hc⟩ := h1.flat 0 (by rw [h1.len]; exact hn) 0 (by omega)
  have h5 := h2 a e
  rw [e] at e2
  cases e2
  have := cell?_lt hc
  simp only at this h5 ⊢
  omega
/-- The sheet that a loop folds on and on, in its block b. -/
structure Ck (Z : Nat) (w : World) (b : Nat) (wr : World) (sc : Sch) (k : Nat) (x : Sht) (oa : Option Addr) (cap : Nat) : Prop where
  bel : Below b w wr
  tab : FTab (fun v : Value => v) wr b 3 (outF (.int .i64 x.cols) (.int .i64 x.rows) (.slice oa x.piles.length cap))
  ps : PilesF Z b wr oa x.piles
  run : runF (flatV sc) (sc.steps.take k) = some x
  mid : Mid sc x
  lt : b < wr.heap.size
theorem Ck.below {w wr w' : World} {Z b k cap : Nat} {sc : Sch} {x : Sht} {oa : Option Addr} (h : Ck Z w b wr sc k x oa cap) (hb : Below wr.heap.size wr w') : Ck Z w b w' sc k x oa cap :=
  ⟨h.bel.trans (hb.mono (Nat.le_of_lt h.lt)), h.tab.below hb h.lt, h.ps.below hb, h.run, h.mid, Nat.lt_of_lt_of_le h.lt hb.size⟩
/-- A fold's result is stored. -/
theorem Ck.step {w wr w' : World} {Z b k cap oc : Nat} {sc : Sch} {x y : Sht} {oa ob : Option Addr} (h : Ck Z w b wr sc k x oa cap) (hb : Below wr.heap.size wr w') (hk : k < sc.steps.length) (hs : StepOk x sc.steps[k]) (hy : y = foldV x sc.steps[k]) (hp : PilesN wr.heap.size w' ob y.piles) (hZ : Z ≤ wr.heap.size) :
    Ck Z w b (resW w' b (.int .i64 y.cols) (.int .i64 y.rows) (.slice ob y.piles.length oc)) sc (k + 1) y ob oc := by
  have h2 := h.below hb
  have hr := res_set (x := .int .i64 y.cols) (y := .int .i64 y.rows) (z := .slice ob y.piles.length oc) h2.tab
  have hz := h.lt
  have hz2 := hb.size
  subst hy
  refine ⟨hr.bel h2.bel (Nat.le_refl _), ?_, ?_, runF_next hk h.run hs, h.mid.fold hs, by rw [hr.sz]; omega⟩
  · refine ⟨fun i hi => ?_, fun o => ?_⟩
    · match i, hi with
      | 0, _ => exact hr.c0
      | 1, _ => exact hr.c1
      | 2, _ => exact hr.c2
    · unfold resW
      simp only [World.frozen?_setCell]
      exact h2.tab.fz o
  · exact (hp.far (by omega) hZ).heap (by rw [hr.sz]; exact Nat.le_refl _) fun g hg _ => hr.hp g hg
/-- A code that is zero just where all is well. -/
def RetCode (good : Prop) (w : World) (e : Ending) (w' : World) : Prop := ∃ c : Int, e = .returned (.int .i64 c) ∧ (c = 0 ↔ good) ∧ Below w.heap.size w w'
theorem RetCode.ok {good : Prop} {w w' : World} {e : Ending} (h : RetCode good w e w') (hg : good) : e = .returned (.int .i64 0) ∧ Below w.heap.size w w' := by
  obtain ⟨c, rfl, h1, h2⟩ := h
  rw [h1.2 hg]
  exact ⟨rfl, h2⟩
def GoodF (sc : Sch) : Prop := ∃ x, endV sc = some x
set_option maxRecDepth 100000 in
set_option maxHeartbeats 16000000 in
theorem fcheck_any (sc : Sch) (os : Option Addr) (cs : Nat) (w : World) (hf : Flat w 3 encStp os sc.steps) (hm : sc.steps.length ≤ maxLen) :
    Calls Try.prog 19 #[.agg #[.int .i64 sc.cols, .int .i64 sc.rows, .slice os sc.steps.length cs]] w (RetCode (GoodF sc) w) := by
  obtain ⟨m, hmm⟩ : ∃ m, m = sc.steps.length := ⟨_, rfl⟩
  obtain ⟨W1, hW1⟩ : ∃ W1, W1 = w.alloc (.cells #[.int .i64 sc.cols, .int .i64 sc.rows, .slice os m cs] 24) := ⟨_, rfl⟩
  have hb1 : Below w.heap.size w W1 := by rw [hW1]; exact balloc (Below.refl _ w) _
  have ht1 : FTab (fun v : Value => v) W1 w.heap.size 3 (outF (.int .i64 sc.cols) (.int .i64 sc.rows) (.slice os m cs)) := by rw [hW1]; exact outF_new w _ _ _ _
  have hz1 : W1.heap.size = w.heap.size + 1 := by rw [hW1, World.size_alloc]
  have c0 : W1.cell? ⟨w.heap.size, 0, none⟩ = some (.int .i64 sc.cols) := ht1.at' 0 (by omega)
  have c1 : W1.cell? ⟨w.heap.size, 1, none⟩ = some (.int .i64 sc.rows) := ht1.at' 1 (by omega)
  have c2 : W1.cell? ⟨w.heap.size, 2, none⟩ = some (.slice os m cs) := ht1.at' 2 (by omega)
  have HB1 := Lib.hid hb1
  have HZ1 := Lib.hid hz1
  have NO : Hid (∀ (c : Int), c ≠ 0 → ¬ SchIn sc → RetCode (GoodF sc) w (.returned (.int .i64 c)) W1) := fun c hc hn => ⟨c, rfl, ⟨fun h => absurd h hc, fun ⟨x, hx⟩ => by unfold endV at hx; rw [if_neg hn] at hx; cases hx⟩, HB1.out⟩
  have HM := Lib.hid hmm
  have HF := Lib.hid hf
  rw [← hmm] at hm ⊢
  have hm9 : m ≤ 9223372036854775807 := by unfold maxLen at hm; omega
  clear hb1 ht1 hmm hf hm hz1
  go_enter Try.func19, Try.ntmps19
  go_upto_region 1 with fail
  rw [← hW1]
  clear hW1
  by_cases k1 : sc.cols < 1
  · have HR := Lib.hid (NO.out 3 (by decide) (fun h => by have := h.1; omega))
    go_wp2_with fail
    go_ret
    exact HR.out
  by_cases k2 : 8 < sc.cols
  · have HR := Lib.hid (NO.out 3 (by decide) (fun h => by have := h.2.1; omega))
    go_wp2_with fail
    go_ret
    exact HR.out
  by_cases k3 : sc.rows < 1
  · have HR := Lib.hid (NO.out 3 (by decide) (fun h => by have := h.2.2.1; omega))
    go_wp2_with fail
    go_ret
    exact HR.out
  by_cases k4 : 8 < sc.rows
  · have HR := Lib.hid (NO.out 3 (by decide) (fun h => by have := h.2.2.2.1; omega))
    go_wp2_with fail
    go_ret
    exact HR.out
  go_upto_region 3 with fail
  obtain ⟨P, hP⟩ : ∃ P : Int, P = sc.cols * sc.rows := ⟨_, rfl⟩
  have hP64 : 0 ≤ P ∧ P ≤ 64 := by
    have h1 := mul_bd sc.cols sc.rows 8 8 (by omega) (by omega) (by omega) (by omega)
    omega
  have x1 : IntKind.i64.wrap (sc.cols * sc.rows) = P := by rw [← hP]; exact IntWalk.i64_in _ (by omega)
  have HP := Lib.hid hP
  clear hP
  by_cases k5 : 32 < P
  · have HR := Lib.hid (NO.out 2 (by decide) (fun h => by have h1 := h.2.2.2.2.1; rw [← HP.out] at h1; omega))
    clear k1 k2 k3 k4
    go_wp2_with fail
    go_ret
    exact HR.out
  by_cases k6 : 8 < m
  · have HR := Lib.hid (NO.out 2 (by decide) (fun h => by have h1 := h.2.2.2.2.2; rw [← HM.out] at h1; omega))
    have k6i : (8 : Int) < (m : Int) := by omega
    clear k1 k2 k3 k4
    go_wp2_with fail
    go_ret
    exact HR.out
  have hin : SchIn sc := ⟨by omega, by omega, by omega, by omega, by rw [← HP.out]; omega, by rw [← HM.out]; omega⟩
  have k6i : ¬ (8 : Int) < (m : Int) := by omega
  have HIN := Lib.hid hin
  have HFL := Lib.hid (flat_any sc ⟨hin.1, hin.2.1⟩ ⟨hin.2.2.1, hin.2.2.2.1⟩ os m cs W1)
  clear k1 k2 k3 k4 hin NO
  go_wp2_with fail
  refine HFL.out.mono ?_
  intro e w2 hret
  obtain ⟨oa, cap, rfl, hps, hb2⟩ := hret
  obtain ⟨x0, hx0⟩ : ∃ x, x = flatV sc := ⟨_, rfl⟩
  rw [← hx0] at hps ⊢
  have c2 := keepCell hb2 c2
  obtain ⟨W3, hW3⟩ : ∃ W3, W3 = w2.alloc (.cells #[.int .i64 x0.cols, .int .i64 x0.rows, .slice oa x0.piles.length cap] 105) := ⟨_, rfl⟩
  have hb3 : Below w2.heap.size w2 W3 := by rw [hW3]; exact balloc (Below.refl _ w2) _
  have ht3 : FTab (fun v : Value => v) W3 w2.heap.size 3 (outF (.int .i64 x0.cols) (.int .i64 x0.rows) (.slice oa x0.piles.length cap)) := by rw [hW3]; exact outF_new w2 _ _ _ _
  have hz3 : W3.heap.size = w2.heap.size + 1 := by rw [hW3, World.size_alloc]
  have c2 := keepCell hb3 c2
  have hmid : Mid sc x0 := by rw [hx0]; exact Mid.flat HIN.out
  have HCK : Hid (Ck 0 W3 w2.heap.size W3 sc 0 x0 oa cap) := by
    refine ⟨Below.refl _ _, ht3, (hps.near (Nat.le_refl _) (Nat.zero_le _) ?_).below hb3, by rw [List.take_zero, hx0]; rfl, hmid, by omega⟩
    obtain ⟨h1, h2, h3⟩ := hmid.k.wf
    rw [h1]
    exact Nat.mul_pos h3 h2
  have HBW : Hid (Below w.heap.size w W3) := (bthen HB1.out hb2).trans (hb3.mono (by have h1 := hb2.size; have h2 := HB1.out.size; omega))
  have HFW : Hid (Flat W3 3 encStp os sc.steps) := HF.out.below HBW.out
  obtain ⟨b, hb⟩ : ∃ b, b = w2.heap.size := ⟨_, rfl⟩
  rw [← hb] at HCK
  have HW3 : Hid (w2.alloc (.cells #[.int .i64 x0.cols, .int .i64 x0.rows, .slice oa x0.piles.length cap] 105) = W3) := hW3.symm
  have HBB := Lib.hid hb
  have HLW : Hid (w.heap.size < b ∧ W3.heap.size = b + 1) := ⟨by have h1 := hb2.size; rw [HZ1.out] at h1; omega, by omega⟩
  clear hb2 hb3 ht3 hz3 hW3 hmid hps c0 c1 HFL x1 hx0 k5 k6 HFW
  go_upto_region 6 with fail
  rw [HW3.out, ← HBB.out]
  clear HW3 HBB hb
  go_wp2_with fail
  go_loopw [41] (fun i wr => ∃ k : Nat, k ≤ m ∧ i = .int .i64 k ∧ Hid (∃ x oa cap, Ck 0 W3 b wr sc k x oa cap)) (fun i _ => m - (intOf i).toNat)
  case atStart => exact ⟨0, by omega, rfl, _, _, _, HCK.out⟩
  case round =>
    clear HCK c2
    obtain ⟨k, hk, rfl, HX⟩ := hrel
    obtain ⟨wa, rfl⟩ : ∃ wa : World, wa = wr := ⟨_, rfl⟩
    obtain ⟨x, ox, cx, hx⟩ := HX.out
    have HX := Lib.hid hx
    clear hx
    have m8 : m ≤ 8 := by omega
    by_cases hlt : k < m
    · have kd : (k : Int) < (m : Int) := by omega
      have hks : k < sc.steps.length := by rw [← HM.out]; exact hlt
      have HBA : Hid (Below w.heap.size w wa) := HBW.out.trans (HX.out.bel.mono (by have := HLW.out; omega))
      obtain ⟨sb, soff, rfl, s0, s1, s2⟩ := (HF.out.below HBA.out).stp hks
      obtain ⟨f, hf⟩ : ∃ f, f = sc.steps[k] := ⟨_, rfl⟩
      rw [← hf] at s0 s1 s2
      have HFF := Lib.hid hf
      obtain ⟨fs, fl, fo⟩ := f
      simp only at s0 s1 s2
      clear hf
      obtain ⟨W5, hW5⟩ : ∃ W5, W5 = wa.alloc (.cells #[.int .i64 fs, .int .i64 fl, .bool fo] 108) := ⟨_, rfl⟩
      have hb5 : Below wa.heap.size wa W5 := by rw [hW5]; exact balloc (Below.refl _ wa) _
      have ht5 : FTab (fun v : Value => v) W5 wa.heap.size 3 (outF (.int .i64 fs) (.int .i64 fl) (.bool fo)) := by rw [hW5]; exact outF_new wa _ _ _ _
      have NOK : Hid (∀ (W : World) (c : Int), c ≠ 0 → Below wa.heap.size wa W → ¬ StepOk x ⟨fs, fl, fo⟩ → RetCode (GoodF sc) w (.returned (.int .i64 c)) W) := fun W c hc hb hn => by
        refine ⟨c, rfl, ⟨fun h => absurd h hc, fun ⟨y, hy⟩ => ?_⟩, HBA.out.trans (hb.mono HBA.out.size)⟩
        unfold endV at hy
        rw [if_pos HIN.out, runF_stop hks HX.out.run (by rw [← HFF.out]; exact hn)] at hy
        cases hy
      have a0 : W5.cell? ⟨wa.heap.size, 0, none⟩ = some (.int .i64 fs) := ht5.at' 0 (by omega)
      have a1 : W5.cell? ⟨wa.heap.size, 1, none⟩ = some (.int .i64 fl) := ht5.at' 1 (by omega)
      have a2 : W5.cell? ⟨wa.heap.size, 2, none⟩ = some (.bool fo) := ht5.at' 2 (by omega)
      have HX5 := Lib.hid (HX.out.below hb5)
      have b0 : W5.cell? ⟨b, 0, none⟩ = some (.int .i64 x.cols) := HX5.out.tab.at' 0 (by omega)
      have b1 : W5.cell? ⟨b, 1, none⟩ = some (.int .i64 x.rows) := HX5.out.tab.at' 1 (by omega)
      have b2 : W5.cell? ⟨b, 2, none⟩ = some (.slice ox x.piles.length cx) := HX5.out.tab.at' 2 (by omega)
      have HB5 := Lib.hid hb5
      go_upto_region 9 with fail
      rw [← hW5]
      clear s0 s1 s2 ht5 hb5 hW5
      by_cases q1 : fs < 0
      · have HR := Lib.hid (NOK.out W5 14 (by decide) HB5.out (fun h => by have := h.1; simp only at this; omega))
        go_wp2_with fail
        go_ret
        exact HR.out
      by_cases q2 : 3 < fs
      · have HR := Lib.hid (NOK.out W5 14 (by decide) HB5.out (fun h => by have := h.2.1; simp only at this; omega))
        go_wp2_with fail
        go_ret
        exact HR.out
      go_upto_region 11 with fail
      by_cases q3 : fl < 1
      · have HR := Lib.hid (fun nq => NOK.out (W5.drewN nq) 3 (by decide) (bdrewN HB5.out nq) (fun h => by have := h.2.2.1; simp only at this; omega))
        go_quiet (fail)
        go_wp2_with fail
        go_ret
        exact HR.out _
      · have hex := extent_any x ⟨fs, fl, fo⟩ (.slice ox x.piles.length cx) ⟨_, _, _, rfl⟩
        obtain ⟨E, hE⟩ : ∃ E, E = extV x ⟨fs, fl, fo⟩ := ⟨_, rfl⟩
        have HEX : Hid (∀ W, Below W5.heap.size W5 W → Calls Try.prog 37 #[.agg #[.int .i64 x.cols, .int .i64 x.rows, .slice ox x.piles.length cx], .agg #[.int .i64 fs, .int .i64 fl, .bool fo]] W fun e w' => e = .returned (.int .i64 E) ∧ Below W.heap.size W w') := fun W _ => by rw [hE]; exact hex W
        have HEE := Lib.hid hE
        clear hex hE
        have hS : Hid (∀ W, Below W5.heap.size W5 W → Below W5.heap.size W5 W ∧ W.cell? ⟨wa.heap.size, 0, none⟩ = some (.int .i64 fs) ∧ W.cell? ⟨wa.heap.size, 1, none⟩ = some (.int .i64 fl) ∧ W.cell? ⟨wa.heap.size, 2, none⟩ = some (.bool fo) ∧ W.cell? ⟨b, 0, none⟩ = some (.int .i64 x.cols) ∧ W.cell? ⟨b, 1, none⟩ = some (.int .i64 x.rows) ∧ W.cell? ⟨b, 2, none⟩ = some (.slice ox x.piles.length cx)) := fun W hb => ⟨hb, keepCell hb a0, keepCell hb a1, keepCell hb a2, keepCell hb b0, keepCell hb b1, keepCell hb b2⟩
        by_cases q4 : (E : Int) ≤ fl
        all_goals
          go_region_held3 (fun w' => Below W5.heap.size W5 w' ∧ w'.cell? ⟨wa.heap.size, 0, none⟩ = some (.int .i64 fs) ∧ w'.cell? ⟨wa.heap.size, 1, none⟩ = some (.int .i64 fl) ∧ w'.cell? ⟨wa.heap.size, 2, none⟩ = some (.bool fo) ∧ w'.cell? ⟨b, 0, none⟩ = some (.int .i64 x.cols) ∧ w'.cell? ⟨b, 1, none⟩ = some (.int .i64 x.rows) ∧ w'.cell? ⟨b, 2, none⟩ = some (.slice ox x.piles.length cx))
            (first | (refine hS.out _ ?_; (first | assumption | go_grown)))
            (first | fail | (go_at_call 37; ((with_reducible refine (HEX.out _ (And.left (by assumption))).mono ?_); rintro e w7 ⟨rfl, hb7⟩; have hz7 : Below W5.heap.size W5 w7 := bthen (And.left (by assumption)) hb7)))
        · have HR := Lib.hid (NOK.out w7 3 (by decide) (bthen HB5.out hz7) (fun h => by have h1 := h.2.2.2; simp only at h1; rw [← HEE.out] at h1; omega))
          clear a0 a1 a2 b0 b1 b2
          go_wp2_with fail
          go_ret
          exact HR.out
        · have hst : StepOk x ⟨fs, fl, fo⟩ := ⟨by show 0 ≤ fs; omega, by show fs ≤ 3; omega, by show 1 ≤ fl; omega, by show fl < _; rw [← HEE.out]; omega⟩
          have HX7 := Lib.hid (HX5.out.below hz7)
          have a0 := keepCell hz7 a0
          have a1 := keepCell hz7 a1
          have a2 := keepCell hz7 a2
          have b0 := keepCell hz7 b0
          have b1 := keepCell hz7 b1
          have b2 := keepCell hz7 b2
          have HFO := Lib.hid (fold_any sc x ⟨fs, fl, fo⟩ HX7.out.mid hst ox cx w7 HX7.out.ps.rows1)
          have HST := Lib.hid hst
          have HZ7 := Lib.hid (bthen HB5.out hz7)
          clear hst hS HEX HX5
          go_wp2_with fail
          refine HFO.out.mono ?_
          intro e w8 hret
          obtain ⟨oy, cy, rfl, hpy, hb8⟩ := hret
          obtain ⟨y, hy⟩ : ∃ y, y = foldV x ⟨fs, fl, fo⟩ := ⟨_, rfl⟩
          rw [← hy] at hpy ⊢
          have HS : Hid (Ck 0 W3 b (resW w8 b (.int .i64 y.cols) (.int .i64 y.rows) (.slice oy y.piles.length cy)) sc (k + 1) y oy cy) := HX7.out.step hb8 hks (by rw [← HFF.out]; exact HST.out) (by rw [← HFF.out]; exact hy) hpy (Nat.zero_le _)
          have hx8 := (HX7.out.below hb8).tab
          have b0 : w8.cell? ⟨b, 0, none⟩ = some (.int .i64 x.cols) := hx8.at' 0 (by omega)
          have b1 : w8.cell? ⟨b, 1, none⟩ = some (.int .i64 x.rows) := hx8.at' 1 (by omega)
          have b2 : w8.cell? ⟨b, 2, none⟩ = some (.slice ox x.piles.length cx) := hx8.at' 2 (by omega)
          have bf := hx8.fz
          clear hx8 hpy hb8 hy HFO
          go_wp2_with fail
          go_roundw
          case rel => exact ⟨k + 1, by omega, by go_num, y, oy, cy, HS.out⟩
          case measure => simp [intOf]; omega
    · obtain rfl : m = k := by omega
      have HR : Hid (RetCode (GoodF sc) w (.returned (.int .i64 0)) wa) := by
        refine ⟨0, rfl, ⟨fun _ => ⟨x, ?_⟩, fun _ => rfl⟩, HBW.out.trans (HX.out.bel.mono (by have := HLW.out; omega))⟩
        unfold endV
        rw [if_pos HIN.out]
        have h := HX.out.run
        rw [HM.out, List.take_length] at h
        exact h
      go_wp2_with fail
      go_ret
      exact HR.out
end Go.Proofs.Ytdblibjmgamjeaa
