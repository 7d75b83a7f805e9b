/-
  The walk of impose.Plate with marks. Printed by gen_iplm.py. Own text.
-/
import Derived.Test.YtdblibjmgamjeaaIpl
import Derived.Test.YtdblibjmgamjeaaTurnsR
import Derived.Test.YtdblibjmgamjeaaMarks
import Derived.Deep.RegionHeld3
namespace Go.Proofs.Ytdblibjmgamjeaa
open Go.RowKit
set_option linter.unusedVariables false
/-- A sheet is returned on which there are marks, and the pages over them; and 0. -/
def RetPl (l : Lay) (gs : List Img) (S : List Pl) (w : World) (e : Ending) (w' : World) : Prop := ∃ D : Img, D.W = (fullW l).toNat ∧ D.H = (fullH l).toNat ∧ RetGrid0 (foldI D gs S) w e w'
theorem foldI_snoc (D : Img) (gs : List Img) (ps : List Pl) (p : Pl) : foldI D gs (ps ++ [p]) = stepI gs (foldI D gs ps) p := by
  unfold foldI
  rw [List.foldl_append]; rfl
theorem Flat.high {α : Type} {Z k : Nat} {w w' : World} {enc : α → List Value} {oa : Option Addr} {xs : List α} (h : Flat w k enc oa xs) (h1 : ∀ a, oa = some a → Z ≤ a.block) (hz : HighZ Z w w') : Flat w' k enc oa xs := fun i hi j hj => by
  obtain ⟨v, hv, b, off, e, hc⟩ := h i hi j hj
  have hl : b < w.heap.size := cell?_lt hc
  exact ⟨v, hv, b, off, e, by rw [World.cell?_of_block (w := w) (a := ⟨b, off + (i * k + j), none⟩) (hz.2 b (h1 _ e) hl)]; exact hc⟩
set_option maxRecDepth 100000 in
set_option maxHeartbeats 32000000 in
theorem iplM_any (l : Lay) (x : Sht) (hx : Good l x) (os : Option Addr) (cs : Nat) (gs : List Img) (hgs : PagesOk l gs) (hn : gs.length ≤ (pagesV l.sc x).length) (oa : Option Addr) (ca : Nat) (back : Bool) (w : World) (hs : StpAt w l os cs) (hp : PlAt w oa gs) :
    Calls Try.prog 10 #[layV l os l.sc.steps.length cs, .slice oa gs.length ca, .bool back, .bool true] w (RetPl l gs (if back then bkV l 0 ((pagesV l.sc x).take gs.length) else frV l 0 ((pagesV l.sc x).take gs.length)) w) := by
  have hr := hx.rng
  have hob := one_bd hx.f hr
  have hlg := hx.large
  have hplen : (pagesV l.sc x).length ≤ 64 := by have := hx.f.plen; have := leaves_bd hx.f.inn; omega
  have hfull : 1 ≤ fullW l ∧ 1 ≤ fullH l := by
    constructor
    · unfold fullW; split <;> omega
    · unfold fullH; split <;> omega
  have hcr : ((pagesV l.sc x).length : Int) = 2 * (l.sc.cols * l.sc.rows) := by have := hx.f.plen; have := leaves_bd hx.f.inn; omega
  have HIN := Lib.hid (fr_in hx hn)
  have HCK : Hid (∀ W, Below w.heap.size w W → Calls Try.prog 7 #[layV l os l.sc.steps.length cs] W (RetCode (GoodL l) W)) := fun W hb => icheck_any l os cs W (hs.below hb)
  have HSH : Hid (∀ W, Below w.heap.size w W → Calls Try.prog 22 #[layV l os l.sc.steps.length cs, .int .i64 gs.length] W (RetSheet l (frV l 0 ((pagesV l.sc x).take gs.length)) (bkV l 0 ((pagesV l.sc x).take gs.length)) W)) := fun W hb => sheet_any l x hx os cs gs.length hn W (hs.below hb)
  have HGL : Hid (GoodL l) := ⟨x, hx⟩
  have HMA : Hid (∀ W, Below w.heap.size w W → Calls Try.prog 24 #[layV l os l.sc.steps.length cs] W (RetMarks W)) := fun W hb => marks_any l x hx os cs W (hs.below hb)
  have hcc : l.sc.cols ≤ 8 ∧ l.sc.rows ≤ 8 ∧ 1 ≤ l.sc.cols ∧ 1 ≤ l.sc.rows := ⟨hx.f.inn.2.1, hx.f.inn.2.2.2.1, hx.f.inn.1, hx.f.inn.2.2.1⟩
  obtain ⟨F, hF⟩ : ∃ F, F = frV l 0 ((pagesV l.sc x).take gs.length) := ⟨_, rfl⟩
  obtain ⟨B, hB⟩ : ∃ B, B = bkV l 0 ((pagesV l.sc x).take gs.length) := ⟨_, rfl⟩
  have hFl : F.length ≤ 64 ∧ B.length ≤ 64 := by
    have h1 := frV_len l ((pagesV l.sc x).take gs.length) 0
    have h2 := bkV_len l ((pagesV l.sc x).take gs.length) 0
    rw [List.length_take] at h1 h2
    rw [hF, hB]; omega
  rw [← hF, ← hB] at HSH HIN ⊢
  obtain ⟨m, hm⟩ : ∃ m, m = l.sc.steps.length := ⟨_, rfl⟩
  rw [← hm] at HCK HSH HMA ⊢
  obtain ⟨W1, hW1⟩ : ∃ W1, W1 = (w.alloc (layO l os m cs)).alloc (.cells #[.int .i64 0, .int .i64 0, .slice none 0 0] 37) := ⟨_, rfl⟩
  have hb1 : Below w.heap.size w W1 := by rw [hW1]; exact balloc (balloc (Below.refl _ w) _) _
  have hz1 : W1.heap.size = w.heap.size + 1 + 1 := by rw [hW1]; simp
  have ht1 : FTab (fun v : Value => v) W1 w.heap.size 11 (layF l os m cs) := by rw [hW1]; exact (layF_new w l os m cs _).alloc (by simp) _
  have ht2 : FTab (fun v : Value => v) W1 (w.heap.size + 1) 3 (outF (.int .i64 0) (.int .i64 0) (.slice none 0 0)) := by
    have h := outF_new (w.alloc (layO l os m cs)) (.int .i64 0) (.int .i64 0) (.slice none 0 0) 37
    rw [World.size_alloc] at h
    rw [hW1]; exact h
  have HCE : Hid (∀ W, Below W1.heap.size W1 W → (W.cell? ⟨w.heap.size, 0, none⟩ = some (.int .i64 l.sc.cols) ∧ W.cell? ⟨w.heap.size, 1, none⟩ = some (.int .i64 l.sc.rows) ∧ W.cell? ⟨w.heap.size, 2, none⟩ = some (.slice os m cs) ∧ W.cell? ⟨w.heap.size, 3, none⟩ = some (.int .i64 l.w) ∧ W.cell? ⟨w.heap.size, 4, none⟩ = some (.int .i64 l.h) ∧ W.cell? ⟨w.heap.size, 5, none⟩ = some (.int .i64 l.head) ∧ W.cell? ⟨w.heap.size, 6, none⟩ = some (.int .i64 l.fore) ∧ W.cell? ⟨w.heap.size, 7, none⟩ = some (.int .i64 l.spine) ∧ W.cell? ⟨w.heap.size, 8, none⟩ = some (.int .i64 l.margin) ∧ W.cell? ⟨w.heap.size, 9, none⟩ = some (.int .i64 l.creep) ∧ W.cell? ⟨w.heap.size, 10, none⟩ = some (.int .i64 l.style))) := fun W hb => by
    have h := ht1.below hb (by omega)
    exact ⟨h.at' 0 (by omega), h.at' 1 (by omega), h.at' 2 (by omega), h.at' 3 (by omega), h.at' 4 (by omega), h.at' 5 (by omega), h.at' 6 (by omega), h.at' 7 (by omega), h.at' 8 (by omega), h.at' 9 (by omega), h.at' 10 (by omega)⟩
  have HW1 : Hid ((w.alloc (layO l os m cs)).alloc (.cells #[.int .i64 0, .int .i64 0, .slice none 0 0] 37) = W1) := hW1.symm
  have HB1 := Lib.hid hb1
  have HZ1 := Lib.hid hz1
  have HT2 := Lib.hid ht2
  have HP1 := Lib.hid (hp.below hb1)
  have hw := hr.w
  have hh := hr.h
  obtain ⟨n, hnn⟩ : ∃ n, n = gs.length := ⟨_, rfl⟩
  have HNN := Lib.hid hnn
  have HGS := Lib.hid hgs
  obtain ⟨CR, hCR⟩ : ∃ C, C = 2 * l.sc.cols * l.sc.rows := ⟨_, rfl⟩
  have hCRb : (n : Int) ≤ CR := by rw [hCR, hnn, Int.mul_assoc, ← hcr]; omega
  have hCRu : CR ≤ 128 := by rw [hCR, Int.mul_assoc, ← hcr]; omega
  have hn64 : n ≤ 64 := by omega
  have x1 : IntKind.i64.wrap (2 * l.sc.cols) = 2 * l.sc.cols := IntWalk.i64_in _ (by omega)
  have x2 : IntKind.i64.wrap (2 * l.sc.cols * l.sc.rows) = CR := by rw [← hCR]; exact IntWalk.i64_in _ (by omega)
  have x3 : ¬ (CR < (n : Int)) := by omega
  rw [← hnn] at HSH ⊢
  obtain ⟨S, hS⟩ : ∃ S, S = (if back then B else F) := ⟨_, rfl⟩
  rw [← hS]
  have HSS := Lib.hid hS
  clear hS
  clear hW1 hb1 hz1 ht1 ht2 hs hx hp hr hcr hnn hgs hCR hn hob hcc hF hB hm hplen
  unfold layO at HW1
  go_enter Try.func10, Try.ntmps10
  go_upto_region 1 with fail
  rw [HW1.out]
  clear HW1
  obtain ⟨c0, c1, c2, c3, c4, c5, c6, c7, c8, c9, c10⟩ := HCE.out W1 (Below.refl _ W1)
  have HL := Lib.hid (HCK.out W1 HB1.out)
  clear HCK
  go_wp2_with fail
  refine HL.out.mono ?_
  intro e w2 hret
  obtain ⟨rfl, hb2⟩ := hret.ok HGL.out
  have HB2 := Lib.hid hb2
  clear c0 c1 c2 c3 c4 c5 c6 c7 c8 c9 c10 HL hb2 hret
  obtain ⟨c0, c1, c2, c3, c4, c5, c6, c7, c8, c9, c10⟩ := HCE.out w2 HB2.out
  go_wp2_with fail
  go_loopw [48] (fun i wr => ∃ k : Nat, k ≤ n ∧ i = .int .i64 k ∧ Hid (Below w2.heap.size w2 wr)) (fun i _ => n - (intOf i).toNat)
  case atStart => exact ⟨0, by omega, rfl, Below.refl _ _⟩
  case round =>
    clear c0 c1 c2 c3 c4 c5 c6 c7 c8 c9 c10
    obtain ⟨k, hk, rfl, HY⟩ := hrel
    obtain ⟨wa, rfl⟩ : ∃ wa : World, wa = wr := ⟨_, rfl⟩
    have HBA := Lib.hid (bthen HB2.out HY.out)
    by_cases hlt : k < n
    · have kd : (k : Int) < (n : Int) := by omega
      have hkl : k < gs.length := by rw [← HNN.out]; exact hlt
      obtain ⟨b, off, o, c, rfl, p0, p1, p2, -, -⟩ := (HP1.out.below HBA.out) k hkl
      have hgw := HGS.out.W gs[k] (List.getElem_mem hkl)
      have hgh := HGS.out.H gs[k] (List.getElem_mem hkl)
      have hgl : ((listI gs[k]).length : Int) = l.w * l.h := by
        have h : (listI gs[k]).length = gs[k].W * gs[k].H := pixL_len _ _ _
        rw [h, Int.natCast_mul, hgw, hgh]
      rw [hgw] at p0
      rw [hgh] at p1
      obtain ⟨q, hq⟩ : ∃ q, q = (listI gs[k]).length := ⟨_, rfl⟩
      rw [← hq] at p2 hgl
      have hq2 : (q : Int) ≤ 65536 := by
        rw [hgl]
        have h : l.w * l.h ≤ 256 * 256 := Int.mul_le_mul hw.2 hh.2 (by omega) (by omega)
        omega
      have x4 : IntKind.i64.wrap (l.w * l.h) = (q : Int) := by rw [← hgl]; exact IntWalk.i64_in _ (by omega)
      obtain ⟨W5, hW5⟩ : ∃ W5, W5 = wa.alloc (.cells #[.int .i64 l.w, .int .i64 l.h, .slice o q c] 37) := ⟨_, rfl⟩
      have hb5 : Below wa.heap.size wa W5 := by rw [hW5]; exact balloc (Below.refl _ wa) _
      have t5 : FTab (fun v : Value => v) W5 wa.heap.size 3 (outF (.int .i64 l.w) (.int .i64 l.h) (.slice o q c)) := by rw [hW5]; exact outF_new wa _ _ _ _
      have HW5 := Lib.hid hW5
      have HN := Lib.hid (bthen HY.out hb5)
      have HN1 := Lib.hid (bthen HBA.out hb5)
      have q0 : W5.cell? ⟨wa.heap.size, 0, none⟩ = some (.int .i64 l.w) := t5.at' 0 (by omega)
      have q1 : W5.cell? ⟨wa.heap.size, 1, none⟩ = some (.int .i64 l.h) := t5.at' 1 (by omega)
      have q2 : W5.cell? ⟨wa.heap.size, 2, none⟩ = some (.slice o q c) := t5.at' 2 (by omega)
      clear hW5 hb5 t5 hgw hgh hgl hq hq2
      go_upto_region 9 with fail
      rw [← HW5.out]
      clear HW5 p0 p1 p2
      obtain ⟨c0, c1, c2, c3, c4, c5, c6, c7, c8, c9, c10⟩ := HCE.out W5 HN1.out
      go_wp2_with fail
      go_roundw
      case rel => exact ⟨k + 1, by omega, by go_num, HN⟩
      case measure => simp [intOf]; omega
    · obtain rfl : n = k := by omega
      obtain ⟨c0, c1, c2, c3, c4, c5, c6, c7, c8, c9, c10⟩ := HCE.out wa HBA.out
      have HSA := Lib.hid (HSH.out wa (bthen HB1.out HBA.out))
      clear HSH
      go_wp2_with fail
      refine HSA.out.mono ?_
      intro e w3 hret
      obtain ⟨oF, kF, oB, kB, he, hfF, hfB, hb3⟩ := hret
      obtain ⟨FW, hFW⟩ : ∃ a : Nat, (a : Int) = fullW l := ⟨(fullW l).toNat, by omega⟩
      obtain ⟨FH, hFH⟩ : ∃ a : Nat, (a : Int) = fullH l := ⟨(fullH l).toNat, by omega⟩
      rw [← hFW, ← hFH] at he hlg hfull
      obtain ⟨nF, hnF⟩ : ∃ q, q = F.length := ⟨_, rfl⟩
      obtain ⟨nB, hnB⟩ : ∃ q, q = B.length := ⟨_, rfl⟩
      rw [← hnF, ← hnB] at he
      subst he
      have HFW : Hid ((fullW l).toNat = FW ∧ (fullH l).toNat = FH) := ⟨by omega, by omega⟩
      have hg4 := shF_new w3 (.int .i64 FW) (.int .i64 FH) (.slice oF nF kF) (.slice oB nB kB) 71
      obtain ⟨w4, hw4⟩ : ∃ w4, w4 = w3.alloc (.cells #[.int .i64 FW, .int .i64 FH, .slice oF nF kF, .slice oB nB kB] 71) := ⟨_, rfl⟩
      rw [← hw4] at hg4
      have hb4 : Below w3.heap.size w3 w4 := by rw [hw4]; exact balloc (Below.refl _ w3) _
      have HW4 := Lib.hid hw4
      have HB4 := Lib.hid (bthen HBA.out (bthen hb3 hb4))
      have HFF := Lib.hid (hfF.below hb4)
      have HFB := Lib.hid (hfB.below hb4)
      have s0 : w4.cell? ⟨w3.heap.size, 0, none⟩ = some (.int .i64 FW) := hg4.at' 0 (by omega)
      have s1 : w4.cell? ⟨w3.heap.size, 1, none⟩ = some (.int .i64 FH) := hg4.at' 1 (by omega)
      have s2 : w4.cell? ⟨w3.heap.size, 2, none⟩ = some (.slice oF nF kF) := hg4.at' 2 (by omega)
      have s3 : w4.cell? ⟨w3.heap.size, 3, none⟩ = some (.slice oB nB kB) := hg4.at' 3 (by omega)
      have HNF := Lib.hid (And.intro hnF hnB)
      obtain ⟨nS, hnS⟩ : ∃ q, q = S.length := ⟨_, rfl⟩
      have HNS := Lib.hid hnS
      have hnS64 : nS ≤ 64 := by
        have hS : S = (if back then B else F) := HSS.out
        rw [hnS]
        cases back with
        | false => have e : S = F := hS
                   rw [e]; exact hFl.1
        | true => have e : S = B := hS
                  rw [e]; exact hFl.2
      clear hFW hFH hnF hnB hg4 hw4 hb4 hfF hfB hb3 HSA c0 c1 c2 c3 c4 c5 c6 c7 c8 c9 c10 hlt hnS
      dsimp only
      go_upto_region 13 with fail
      rw [← HW4.out]
      clear HW4
      go_upto_if 86 with fail
      go_cut [15] from 160 to 159 (fun s15 wq => ∃ oS kS, s15 = .slice oS nS kS ∧ Hid (Flat w4 4 encPl oS S) ∧ wq = w4)
      case first =>
        cases back with
        | false =>
          have e : S = F := HSS.out
          have e2 : nS = nF := by rw [HNS.out, HNF.out.1, e]
          subst e2
          go_wp2_with fail
          go_meet
          exact ⟨_, _, rfl, by rw [e]; exact HFF, rfl⟩
        | true =>
          have e : S = B := HSS.out
          have e2 : nS = nB := by rw [HNS.out, HNF.out.2, e]
          subst e2
          go_wp2_with fail
          go_meet
          exact ⟨_, _, rfl, by rw [e]; exact HFB, rfl⟩
      case rest =>
        obtain ⟨oS, kS, rfl, HFS, hwq⟩ := hcut
        rw [hwq]
        clear hwq
        have HMK : Hid (Calls Try.prog 23 #[.int .i64 FW, .int .i64 FH, .int .u8 0] w4 (RetGrid0 (fillI FW FH 0) w4)) := make_any FW FH (by omega) 0 w4
        go_wp2_with fail
        refine HMK.out.mono ?_
        intro e w5 hret
        obtain ⟨o5, k5, he, hown5, hb5⟩ := hret
        have hpl5 : (listI (fillI FW FH 0)).length = FW * FH := pixL_len _ _ _
        obtain ⟨N, hN⟩ : ∃ N, N = FW * FH := ⟨_, rfl⟩
        rw [hpl5, ← hN] at he hown5
        have he' : e = .returned (.tuple #[.agg #[.int .i64 FW, .int .i64 FH, .slice o5 N k5], .int .i64 0]) := he
        subst he'
        clear he
        have hg6 := outF_new w5 (.int .i64 FW) (.int .i64 FH) (.slice o5 N k5) 74
        obtain ⟨w6, hw6⟩ : ∃ w6, w6 = w5.alloc (.cells #[.int .i64 FW, .int .i64 FH, .slice o5 N k5] 74) := ⟨_, rfl⟩
        rw [← hw6] at hg6
        have hb6 : Below w5.heap.size w5 w6 := by rw [hw6]; exact balloc (Below.refl _ w5) _
        have hz6 : w6.heap.size = w5.heap.size + 1 := by rw [hw6]; simp
        have HW6 := Lib.hid hw6
        obtain ⟨g, hg⟩ : ∃ g, g = w5.heap.size := ⟨_, rfl⟩
        have HGT : Hid (∃ o c, FTab (fun v : Value => v) w6 g 3 (outF (.int .i64 FW) (.int .i64 FH) (.slice o N c)) ∧ OwnPx w6 w4.heap.size (.slice o N c) (listI (fillI FW FH 0)) ∧ (Value.slice o N c).ownBlock ≠ some g) :=
          ⟨o5, k5, by rw [hg]; exact hg6, hown5.below hb6, fun e => by have := (hown5.blk e).2; omega⟩
        have HBW : Hid (Below w4.heap.size w4 w6) := bthen hb5 hb6
        have HGG : Hid (g < w6.heap.size ∧ w4.heap.size ≤ g) := ⟨by omega, by have := hb5.size; omega⟩
        have HNFW := Lib.hid hN
        dsimp only
        clear hown5 hb5 hpl5 hg6 hw6 hb6 hz6 HMK s0 s1 s2 s3 hN
        go_upto_region 17 with fail
        rw [← HW6.out]
        clear HW6
        rw [← hg]
        clear hg
        have HBW6 : Hid (Below W1.heap.size W1 w6) := HB4.out.trans (HBW.out.mono HB4.out.size)
        have HMA6 := Lib.hid (HMA.out w6 (bthen HB1.out HBW6.out))
        clear HMA
        obtain ⟨c0, c1, c2, c3, c4, c5, c6, c7, c8, c9, c10⟩ := HCE.out w6 HBW6.out
        go_wp2_with fail
        refine HMA6.out.mono ?_
        intro e w7 hret
        obtain ⟨ms, om, km, rfl, hfm, hin, hlm, hb7, hfr⟩ := hret
        obtain ⟨nm, hnm⟩ : ∃ q, q = ms.length := ⟨_, rfl⟩
        rw [← hnm] at hlm ⊢
        have HNM := Lib.hid hnm
        have HFM := Lib.hid hfm
        have HIM := Lib.hid hin
        have HOM : Hid (∀ a, om = some a → g + 1 ≤ a.block) := fun a e => by have h1 := hfr a e; have h2 := HGG.out.1; omega
        have HGM : Hid (Below w4.heap.size w4 w7 ∧ HighZ (g + 1) w7 w7 ∧ g < w7.heap.size ∧ ∃ (D : Img) (o : Option Addr) (c : Nat), D.W = FW ∧ D.H = FH ∧ FTab (fun v : Value => v) w7 g 3 (outF (.int .i64 FW) (.int .i64 FH) (.slice o N c)) ∧ OwnPx w7 w4.heap.size (.slice o N c) (listI D) ∧ (Value.slice o N c).ownBlock ≠ some g) := by
          obtain ⟨o, c, h1, h2, h3⟩ := HGT.out
          exact ⟨bthen HBW.out hb7, ⟨Nat.le_refl _, fun _ _ _ => rfl⟩, Nat.lt_of_lt_of_le HGG.out.1 hb7.size, fillI FW FH 0, o, c, rfl, rfl, h1.below hb7 HGG.out.1, h2.below hb7, h3⟩
        have HGE : Hid (w4.heap.size ≤ g) := HGG.out.2
        clear c0 c1 c2 c3 c4 c5 c6 c7 c8 c9 c10 HMA6 HBW6 HGT HBW HGG hnm hfm hin hb7 hfr
        dsimp only
        go_wp2_with fail
        go_loopw [105] (fun i wr => ∃ k : Nat, k ≤ nm ∧ i = .int .i64 k ∧ Hid (Below w4.heap.size w4 wr ∧ HighZ (g + 1) w7 wr ∧ g < wr.heap.size ∧ ∃ (D : Img) (o : Option Addr) (c : Nat), D.W = FW ∧ D.H = FH ∧ FTab (fun v : Value => v) wr g 3 (outF (.int .i64 FW) (.int .i64 FH) (.slice o N c)) ∧ OwnPx wr w4.heap.size (.slice o N c) (listI D) ∧ (Value.slice o N c).ownBlock ≠ some g)) (fun i _ => nm - (intOf i).toNat)
        case atStart => exact ⟨0, by omega, rfl, HGM.out⟩
        case round =>
          clear HGM
          obtain ⟨k, hk, rfl, HY⟩ := hrel
          obtain ⟨wa, rfl⟩ : ∃ wa : World, wa = wr := ⟨_, rfl⟩
          obtain ⟨hbw, hhz, hgwa, D, og, kg, hDW, hDH, htg, hog, hng⟩ := HY.out
          clear HY
          by_cases hlt : k < nm
          · have kd : (k : Int) < (nm : Int) := by omega
            have hkl : k < ms.length := by rw [← HNM.out]; exact hlt
            have hfl := HFM.out.high HOM.out hhz
            obtain ⟨mb, moff, rfl, l0, l1, l2, l3⟩ := hfl.mk hkl
            have hmi := HIM.out _ (List.getElem_mem hkl)
            obtain ⟨U, hU⟩ : ∃ U, U = ms[k] := ⟨_, rfl⟩
            rw [← hU] at l0 l1 l2 l3 hmi
            obtain ⟨ux, uy, uw, uh⟩ := U
            dsimp only at l0 l1 l2 l3
            have h1 : 0 ≤ ux ∧ ux ≤ 1024 := hmi.x
            have h2 : 0 ≤ uy ∧ uy ≤ 1024 := hmi.y
            have h3 : 1 ≤ uw ∧ uw ≤ 1024 := hmi.w
            have h4 : 1 ≤ uh ∧ uh ≤ 1024 := hmi.h
            obtain ⟨aN, haN⟩ : ∃ q : Nat, (q : Int) = uw := ⟨uw.toNat, by omega⟩
            obtain ⟨bN, hbN⟩ : ∃ q : Nat, (q : Int) = uh := ⟨uh.toNat, by omega⟩
            obtain ⟨wb, hwb⟩ : ∃ wb, wb = wa.alloc (.cells #[.int .i64 ux, .int .i64 uy, .int .i64 uw, .int .i64 uh] 81) := ⟨_, rfl⟩
            have hbb : Below wa.heap.size wa wb := by rw [hwb]; exact balloc (Below.refl _ wa) _
            have t21 : FTab (fun v : Value => v) wb wa.heap.size 4 (shF (.int .i64 ux) (.int .i64 uy) (.int .i64 uw) (.int .i64 uh)) := by rw [hwb]; exact shF_new wa _ _ _ _ _
            have hzb : wa.heap.size < wb.heap.size := by rw [hwb]; simp
            obtain ⟨K, hK⟩ : ∃ K, K = fillI aN bN 255 := ⟨_, rfl⟩
            have hKz : Sized K := by rw [hK]; exact ⟨by show 1 ≤ aN; omega, by show aN ≤ 1024; omega, by show 1 ≤ bN; omega, by show bN ≤ 1024; omega⟩
            have hKW : K.W = aN ∧ K.H = bN := by rw [hK]; exact ⟨rfl, rfl⟩
            obtain ⟨nK, hnK⟩ : ∃ q, q = (listI K).length := ⟨_, rfl⟩
            have HMU : Hid (Calls Try.prog 23 #[.int .i64 uw, .int .i64 uh, .int .u8 255] wb (fun e w' => ∃ o c, e = .returned (.tuple #[.agg #[.int .i64 uw, .int .i64 uh, .slice o nK c], .int .i64 0]) ∧ OwnPx w' wb.heap.size (.slice o nK c) (listI K) ∧ Below wb.heap.size wb w')) := by
              have h := make_any aN bN (by omega) 255 wb
              rw [← hK] at h
              unfold RetGrid0 at h
              rw [hKW.1, hKW.2, ← hnK, haN, hbN] at h
              exact h
            have HWB := Lib.hid hwb
            have HBB := Lib.hid hbb
            have HZB := Lib.hid hzb
            have HT21 := Lib.hid t21
            have HKK : Hid (Sized K ∧ (K.W : Int) = uw ∧ (K.H : Int) = uh ∧ nK = (listI K).length) := ⟨hKz, by rw [hKW.1]; exact haN, by rw [hKW.2]; exact hbN, hnK⟩
            have HTG := Lib.hid htg
            have HOG := Lib.hid hog
            have HDS : Hid (D.W = FW ∧ D.H = FH) := ⟨hDW, hDH⟩
            have HBWW : Hid (Below w4.heap.size w4 wa ∧ HighZ (g + 1) w7 wa ∧ g < wa.heap.size) := ⟨hbw, hhz, hgwa⟩
            have d2 : wb.cell? ⟨wa.heap.size, 2, none⟩ = some (.int .i64 uw) := t21.at' 2 (by omega)
            have d3 : wb.cell? ⟨wa.heap.size, 3, none⟩ = some (.int .i64 uh) := t21.at' 3 (by omega)
            clear hwb hbb hzb t21 htg hog hng hbw hhz hgwa hDW hDH hfl hmi hU hK hKz hKW hnK haN hbN hkl h3 h4
            go_upto_region 22 with fail
            rw [← HWB.out]
            clear HWB l0 l1 l2 l3
            go_wp2_with fail
            refine HMU.out.mono ?_
            rintro e w8 ⟨o8, k8, rfl, hown8, hb8⟩
            clear HMU d2 d3
            obtain ⟨w9, hw9⟩ : ∃ w9, w9 = w8.alloc (.cells #[.int .i64 uw, .int .i64 uh, .slice o8 nK k8] 74) := ⟨_, rfl⟩
            have hg9 : FTab (fun v : Value => v) w9 w8.heap.size 3 (outF (.int .i64 uw) (.int .i64 uh) (.slice o8 nK k8)) := by rw [hw9]; exact outF_new w8 _ _ _ _
            have hb89 : Below w8.heap.size w8 w9 := by rw [hw9]; exact balloc (Below.refl _ w8) _
            have hb9 : Below wb.heap.size wb w9 := bthen hb8 hb89
            have hX9 : PxAt w9 o8 nK k8 (listI K) := (OwnPx.at hown8).below hb89
            have hcap := hown8.cap
            obtain ⟨oz, kz, ez, hcz⟩ := hcap
            simp only [Value.slice.injEq] at ez
            have hk8 : nK ≤ k8 := by have := HKK.out.2.2.2; omega
            have HW9 := Lib.hid hw9
            have hba : Below wa.heap.size wa w9 := bthen HBB.out hb9
            have htg := HTG.out.below hba HBWW.out.2.2
            have h21 := HT21.out.below hb9 HZB.out
            have hog := HOG.out.below hba
            have e0 : w9.cell? ⟨g, 0, none⟩ = some (.int .i64 FW) := htg.at' 0 (by omega)
            have e1 : w9.cell? ⟨g, 1, none⟩ = some (.int .i64 FH) := htg.at' 1 (by omega)
            have e2 : w9.cell? ⟨g, 2, none⟩ = some (.slice og N kg) := htg.at' 2 (by omega)
            have d0 : w9.cell? ⟨wa.heap.size, 0, none⟩ = some (.int .i64 ux) := h21.at' 0 (by omega)
            have d1 : w9.cell? ⟨wa.heap.size, 1, none⟩ = some (.int .i64 uy) := h21.at' 1 (by omega)
            have q0 : w9.cell? ⟨w8.heap.size, 0, none⟩ = some (.int .i64 uw) := hg9.at' 0 (by omega)
            have q1 : w9.cell? ⟨w8.heap.size, 1, none⟩ = some (.int .i64 uh) := hg9.at' 1 (by omega)
            have q2 : w9.cell? ⟨w8.heap.size, 2, none⟩ = some (.slice o8 nK k8) := hg9.at' 2 (by omega)
            have hlC : ∀ (D : Img), D.W = FW → D.H = FH → (listI D).length = N := fun D h1 h2 => by
              have h : (listI D).length = D.W * D.H := pixL_len _ _ _
              rw [h, h1, h2, HNFW.out]
            have HPA : Hid (Calls Try.prog 25 #[.agg #[.int .i64 FW, .int .i64 FH, .slice og N kg], .int .i64 ux, .int .i64 uy, .agg #[.int .i64 uw, .int .i64 uh, .slice o8 nK k8]] w9 (RetGrid0 (pasteI D ux uy K) w9)) := by
              have hl := hlC D HDS.out.1 HDS.out.2
              have h := paste_any D K ⟨by rw [HDS.out.1]; omega, by rw [HDS.out.1]; omega, by rw [HDS.out.2]; omega, by rw [HDS.out.2]; omega⟩ HKK.out.1 og o8 kg k8 ux uy (by omega) (by omega) w9 (by rw [hl]; exact OwnPx.at hog) (by rw [← HKK.out.2.2.2]; exact hX9) (by rw [← HKK.out.2.2.2]; exact hk8)
              rw [HDS.out.1, HDS.out.2, hl, ← HKK.out.2.2.2, HKK.out.2.1, HKK.out.2.2.1] at h
              exact h
            have HGQ := Lib.hid htg
            have HBQ := Lib.hid hba
            have HLC : Hid ((listI (pasteI D ux uy K)).length = N) := hlC _ HDS.out.1 HDS.out.2
            clear hw9 hg9 hb89 hb9 hX9 ez hcz hk8 hba htg h21 hog hlC hown8 hb8
            dsimp only
            go_upto_region 23 with fail
            rw [← HW9.out]
            clear HW9
            go_wp2_with fail
            refine HPA.out.mono ?_
            intro e w10 hret
            obtain ⟨o9, k9, he, hown9, hb10⟩ := hret
            have he' : e = .returned (.tuple #[.agg #[.int .i64 FW, .int .i64 FH, .slice o9 N k9], .int .i64 0]) := by
              rw [he, HLC.out]
              show Ending.returned (.tuple #[.agg #[.int .i64 D.W, .int .i64 D.H, .slice o9 N k9], .int .i64 0]) = _
              rw [HDS.out.1, HDS.out.2]
            rw [HLC.out] at hown9
            subst he'
            clear he e0 e1 e2
            have hg9 := HGQ.out.below hb10 (by have h1 := HBWW.out.2.2; have h2 := HBQ.out.size; omega)
            have hrs := res_set (x := .int .i64 FW) (y := .int .i64 FH) (z := .slice o9 N k9) hg9
            have e0 : w10.cell? ⟨g, 0, none⟩ = some (.int .i64 FW) := hg9.at' 0 (by omega)
            have e1 : w10.cell? ⟨g, 1, none⟩ = some (.int .i64 FH) := hg9.at' 1 (by omega)
            have e2 : w10.cell? ⟨g, 2, none⟩ = some (.slice og N kg) := hg9.at' 2 (by omega)
            have ef := hg9.fz
            have t3 := ((hg9.set (i := 0) (by omega) (.int .i64 FW)).set (i := 1) (by omega) (.int .i64 FH)).set (i := 2) (by omega) (.slice o9 N k9)
            have HNX : Hid (Below w4.heap.size w4 (resW w10 g (.int .i64 FW) (.int .i64 FH) (.slice o9 N k9)) ∧ HighZ (g + 1) w7 (resW w10 g (.int .i64 FW) (.int .i64 FH) (.slice o9 N k9)) ∧ g < (resW w10 g (.int .i64 FW) (.int .i64 FH) (.slice o9 N k9)).heap.size ∧ ∃ (D : Img) (o : Option Addr) (c : Nat), D.W = FW ∧ D.H = FH ∧ FTab (fun v : Value => v) (resW w10 g (.int .i64 FW) (.int .i64 FH) (.slice o9 N k9)) g 3 (outF (.int .i64 FW) (.int .i64 FH) (.slice o N c)) ∧ OwnPx (resW w10 g (.int .i64 FW) (.int .i64 FH) (.slice o9 N k9)) w4.heap.size (.slice o N c) (listI D) ∧ (Value.slice o N c).ownBlock ≠ some g) := by
              have hgl := HBWW.out.2.2
              have hbs := HBQ.out.size
              have h2 : OwnPx (resW w10 g (.int .i64 FW) (.int .i64 FH) (.slice o9 N k9)) w9.heap.size (.slice o9 N k9) (listI (pasteI D ux uy K)) := hown9.heap fun q e => hrs.hp q (by have h3 := (hown9.blk e).1; omega)
              have h4 := HBWW.out.1.size
              have hba2 : Below wa.heap.size wa w10 := bthen HBQ.out hb10
              refine ⟨hrs.bel (HBWW.out.1.trans (hba2.mono h4)) HGE.out, (HBWW.out.2.1.trans (HighZ.ofBelow hba2)).trans ⟨by rw [hrs.sz]; exact Nat.le_refl _, fun q hq _ => hrs.hp q (by omega)⟩, by rw [hrs.sz]; have := hb10.size; omega, pasteI D ux uy K, o9, k9, HDS.out.1, HDS.out.2, ⟨fun i hi => ?_, t3.fz⟩, h2.rebase (by omega), fun e => by have := (hown9.blk e).1; omega⟩
              match i, hi with
              | 0, _ => exact hrs.c0
              | 1, _ => exact hrs.c1
              | 2, _ => exact hrs.c2
            clear hrs hg9 t3 hown9 hb10 d0 d1 q0 q1 q2
            dsimp only
            unfold resW at HNX
            go_wp2_with fail
            go_roundw
            case rel => exact ⟨k + 1, by omega, by go_num, HNX⟩
            case measure => simp [intOf]; omega
          · obtain rfl : nm = k := by omega
            obtain ⟨w6', hw6'⟩ : ∃ q, q = wa := ⟨_, rfl⟩
            rw [← hw6'] at hbw hgwa htg hog ⊢
            clear hw6' hhz
            have HDS : Hid (D.W = FW ∧ D.H = FH) := ⟨hDW, hDH⟩
            have HGT : Hid (∃ o c, FTab (fun v : Value => v) w6' g 3 (outF (.int .i64 FW) (.int .i64 FH) (.slice o N c)) ∧ OwnPx w6' w4.heap.size (.slice o N c) (listI (foldI D gs (S.take 0))) ∧ (Value.slice o N c).ownBlock ≠ some g) := ⟨og, kg, htg, hog, hng⟩
            have HBW := Lib.hid hbw
            have HGG : Hid (g < w6'.heap.size ∧ w4.heap.size ≤ g) := ⟨hgwa, HGE.out⟩
            clear hDW hDH htg hog hng hbw hgwa hlt hk
            go_wp2_with fail
            go_loopw [130] (fun i wr => ∃ k : Nat, k ≤ nS ∧ i = .int .i64 k ∧ Hid (Below w4.heap.size w4 wr ∧ g < wr.heap.size ∧ ∃ o c, FTab (fun v : Value => v) wr g 3 (outF (.int .i64 FW) (.int .i64 FH) (.slice o N c)) ∧ OwnPx wr w4.heap.size (.slice o N c) (listI (foldI D gs (S.take k))) ∧ (Value.slice o N c).ownBlock ≠ some g)) (fun i _ => nS - (intOf i).toNat)
            case atStart => exact ⟨0, by omega, rfl, HBW.out, HGG.out.1, HGT.out⟩
            case round =>
              clear HBW HGT
              obtain ⟨k, hk, rfl, HY⟩ := hrel
              obtain ⟨wa, rfl⟩ : ∃ wa : World, wa = wr := ⟨_, rfl⟩
              obtain ⟨hbw, hgwa, og, kg, htg, hog, hng⟩ := HY.out
              by_cases hlt : k < nS
              · have kd : (k : Int) < (nS : Int) := by omega
                have hkl : k < S.length := by rw [← HNS.out]; exact hlt
                have hfl := HFS.out.below hbw
                obtain ⟨lb, loff, rfl, l0, l1, l2, l3⟩ := hfl.pl hkl
                have hpin : PlIn gs.length S[k] := by
                  have hm := List.getElem_mem hkl
                  have hS : S = (if back then B else F) := HSS.out
                  cases back with
                  | false => exact HIN.out.1 _ (by have e : S = F := hS; rw [← e]; exact hm)
                  | true => exact HIN.out.2 _ (by have e : S = B := hS; rw [← e]; exact hm)
                obtain ⟨⟨i, hi, hpg⟩, hpx, hpy, hpt⟩ := hpin
                have hst := stepI_at (g := foldI D gs (S.take k)) hi hpg
                have hsn : foldI D gs (S.take (k + 1)) = stepI gs (foldI D gs (S.take k)) S[k] := by
                  rw [List.take_succ_eq_append_getElem hkl, foldI_snoc]
                obtain ⟨P, hP⟩ : ∃ P, P = S[k] := ⟨_, rfl⟩
                rw [← hP] at l0 l1 l2 l3 hpg hpx hpy hpt hst hsn
                obtain ⟨pb, poff, po, pcap, rfl, p0, p1, p2, ple, ppx⟩ := (HP1.out.below HB4.out).below hbw i hi
                have hgw := HGS.out.W gs[i] (List.getElem_mem hi)
                have hgh := HGS.out.H gs[i] (List.getElem_mem hi)
                obtain ⟨G, hG⟩ : ∃ G, G = gs[i] := ⟨_, rfl⟩
                rw [← hG] at p0 p1 p2 ple ppx hgw hgh hst
                have hsz : Sized G := ⟨by omega, by omega, by omega, by omega⟩
                obtain ⟨T, hT⟩ : ∃ T, T = turnI G P.turn := ⟨_, rfl⟩
                have hszT : Sized T := by rw [hT]; exact turn_sized hsz _
                rw [← hT] at hst
                rw [hst] at hsn
                obtain ⟨C, hC⟩ : ∃ C, C = foldI D gs (S.take k) := ⟨_, rfl⟩
                rw [← hC] at hsn hog
                have hCs : C.W = FW ∧ C.H = FH := by rw [hC, (foldI_size _ _ _).1, (foldI_size _ _ _).2]; exact HDS.out
                have HSN := Lib.hid hsn
                obtain ⟨nG, hnG⟩ : ∃ q, q = (listI G).length := ⟨_, rfl⟩
                obtain ⟨nT, hnT⟩ : ∃ q, q = (listI T).length := ⟨_, rfl⟩
                rw [← hnG] at p2 ple ppx
                obtain ⟨wb, hwb⟩ : ∃ wb, wb = wa.alloc (.cells #[.int .i64 P.page, .int .i64 P.x, .int .i64 P.y, .int .i64 P.turn] 84) := ⟨_, rfl⟩
                have hbb : Below wa.heap.size wa wb := by rw [hwb]; exact balloc (Below.refl _ wa) _
                have t25 : FTab (fun v : Value => v) wb wa.heap.size 4 (shF (.int .i64 P.page) (.int .i64 P.x) (.int .i64 P.y) (.int .i64 P.turn)) := by rw [hwb]; exact shF_new wa _ _ _ _ _
                have hzb : wb.heap.size = wa.heap.size + 1 := by rw [hwb]; simp
                have hin : i < n := by rw [HNN.out]; exact hi
                have x5 : IntKind.i64.wrap (P.page - 1) = (i : Int) := (IntWalk.i64_in _ (by omega)).trans (by omega)
                have HOF : Hid (∀ W, Below wb.heap.size wb W → Calls Try.prog 26 #[.agg #[.int .i64 G.W, .int .i64 G.H, .slice po nG pcap]] W (fun e w' => ∃ o' c', e = .returned (.agg #[.int .i64 G.W, .int .i64 G.H, .slice o' nG c']) ∧ PxAt w' o' nG c' (listI G) ∧ Below W.heap.size W w')) := fun W hb => by
                  subst hnG
                  exact (of_any G hsz po pcap W ((ppx.below hbb).below hb)).mono fun e w' ⟨o', c', he, ho, hb'⟩ => ⟨o', c', he, OwnPx.at ho, hb'⟩
                have HTU : Hid (∀ W o c, PxAt W o nG c (listI G) → Calls Try.prog 27 #[.agg #[.int .i64 G.W, .int .i64 G.H, .slice o nG c], .int .i64 P.turn] W (fun e w' => ∃ o' c', e = .returned (.tuple #[.agg #[.int .i64 T.W, .int .i64 T.H, .slice o' nT c'], .int .i64 0]) ∧ OwnPx w' W.heap.size (.slice o' nT c') (listI T) ∧ Below W.heap.size W w')) := fun W o c h => by
                  subst hnG
                  rw [hnT, hT]
                  exact turn_any G hsz o c P.turn hpt W h
                have HSX : Hid (∀ W, Below wb.heap.size wb W → W.cell? ⟨wa.heap.size, 0, none⟩ = some (.int .i64 P.page) ∧ W.cell? ⟨wa.heap.size, 3, none⟩ = some (.int .i64 P.turn) ∧ W.cell? ⟨pb, poff + i * 3, none⟩ = some (.int .i64 G.W) ∧ W.cell? ⟨pb, poff + i * 3 + 1, none⟩ = some (.int .i64 G.H) ∧ W.cell? ⟨pb, poff + i * 3 + 2, none⟩ = some (.slice po nG pcap)) := fun W hb =>
                  ⟨(t25.below hb (by omega)).at' 0 (by omega), (t25.below hb (by omega)).at' 3 (by omega), keepCell hb (keepCell hbb p0), keepCell hb (keepCell hbb p1), keepCell hb (keepCell hbb p2)⟩
                have HZA : Hid (∀ (X w' : World), Below (X.alloc (.cells #[.int .i64 0, .int .i64 0, .slice none 0 0] 74)).heap.size (X.alloc (.cells #[.int .i64 0, .int .i64 0, .slice none 0 0] 74)) w' → FTab (fun v : Value => v) w' X.heap.size 3 (outF (.int .i64 0) (.int .i64 0) (.slice none 0 0))) := fun X w' hb => (outF_new X _ _ _ _).below hb (by simp)
                have HNT := Lib.hid hnT
                have HWB := Lib.hid hwb
                have HT25 := Lib.hid t25
                have HBB := Lib.hid hbb
                have HZB := Lib.hid hzb
                have HCS := Lib.hid hCs
                have HSZT := Lib.hid hszT
                have HTG := Lib.hid htg
                have HOG := Lib.hid hog
                have HNG := Lib.hid hng
                have HBWW := Lib.hid (And.intro hbw hgwa)
                clear hwb t25 hbb hzb hCs hszT htg hog hng hbw hC hT hG hP hsz hnG hnT hst hsn p0 p1 p2 ple ppx hgw hgh hfl hpg hi HY
                go_upto_region 28 with fail
                rw [← HWB.out]
                clear HWB l0 l1 l2 l3
                have HSS2 : Hid (∀ W, Below wb.heap.size wb W → Below wb.heap.size wb W ∧ W.cell? ⟨wa.heap.size, 0, none⟩ = some (.int .i64 P.page) ∧ W.cell? ⟨wa.heap.size, 3, none⟩ = some (.int .i64 P.turn) ∧ W.cell? ⟨pb, poff + i * 3, none⟩ = some (.int .i64 G.W) ∧ W.cell? ⟨pb, poff + i * 3 + 1, none⟩ = some (.int .i64 G.H) ∧ W.cell? ⟨pb, poff + i * 3 + 2, none⟩ = some (.slice po nG pcap)) := fun W hb => ⟨hb, HSX.out W hb⟩
                have HOA : Hid (Calls Try.prog 26 #[.agg #[.int .i64 G.W, .int .i64 G.H, .slice po nG pcap]] (wb.alloc (.cells #[.int .i64 0, .int .i64 0, .slice none 0 0] 74)).drew (fun e w' => ∃ o' c', e = .returned (.agg #[.int .i64 G.W, .int .i64 G.H, .slice o' nG c']) ∧ PxAt w' o' nG c' (listI G) ∧ Below wb.heap.size wb w' ∧ FTab (fun v : Value => v) w' wb.heap.size 3 (outF (.int .i64 0) (.int .i64 0) (.slice none 0 0)) ∧ wb.heap.size < w'.heap.size)) :=
                  (HOF.out (wb.alloc (.cells #[.int .i64 0, .int .i64 0, .slice none 0 0] 74)).drew (balloc (Below.refl _ wb) _).drew).mono fun e w' ⟨o', c', he, hp, hb⟩ => ⟨o', c', he, hp, bthen (w1 := (wb.alloc (.cells #[.int .i64 0, .int .i64 0, .slice none 0 0] 74)).drew) (balloc (Below.refl _ wb) _).drew hb, FTab.below (outF_new wb _ _ _ _).drew hb (by simp), by have := hb.size; simp at this; omega⟩
                have HOB : Hid (Calls Try.prog 26 #[.agg #[.int .i64 G.W, .int .i64 G.H, .slice po nG pcap]] wb.drew (fun e w' => ∃ o' c', e = .returned (.agg #[.int .i64 G.W, .int .i64 G.H, .slice o' nG c']) ∧ PxAt w' o' nG c' (listI G) ∧ Below wb.heap.size wb w')) :=
                  (HOF.out wb.drew (Below.refl _ wb).drew).mono fun e w' ⟨o', c', he, hp, hb⟩ => ⟨o', c', he, hp, bthen (w1 := wb.drew) (Below.refl _ wb).drew hb⟩
                have HT1 : Hid (∀ W o c, PxAt W o nG c (listI G) → Below wb.heap.size wb W → FTab (fun v : Value => v) W wb.heap.size 3 (outF (.int .i64 0) (.int .i64 0) (.slice none 0 0)) → wb.heap.size < W.heap.size → Calls Try.prog 27 #[.agg #[.int .i64 G.W, .int .i64 G.H, .slice o nG c], .int .i64 P.turn] W (fun e w' => ∃ o' c', e = .returned (.tuple #[.agg #[.int .i64 T.W, .int .i64 T.H, .slice o' nT c'], .int .i64 0]) ∧ Below wb.heap.size wb w' ∧ FTab (fun v : Value => v) w' wb.heap.size 3 (outF (.int .i64 0) (.int .i64 0) (.slice none 0 0)) ∧ Hid (TurnedAt wb (resW w' wb.heap.size (.int .i64 T.W) (.int .i64 T.H) (.slice o' nT c')) wb.heap.size c' nT o' T))) := fun W o c hp hb ht hl =>
                  (HTU.out W o c hp).mono fun e w' ⟨o', c', he, hown, hb'⟩ => ⟨o', c', he, bthen hb hb', ht.below hb' hl, TurnedAt.old (bthen hb hb') HNT.out hown (Nat.le_refl _) hl (ht.below hb' hl)⟩
                have HT2 : Hid (∀ W o c, PxAt W o nG c (listI G) → Below wb.heap.size wb W → Calls Try.prog 27 #[.agg #[.int .i64 G.W, .int .i64 G.H, .slice o nG c], .int .i64 P.turn] (W.alloc (.cells #[.int .i64 0, .int .i64 0, .slice none 0 0] 74)) (fun e w' => ∃ o' c', e = .returned (.tuple #[.agg #[.int .i64 T.W, .int .i64 T.H, .slice o' nT c'], .int .i64 0]) ∧ Below wb.heap.size wb w' ∧ FTab (fun v : Value => v) w' W.heap.size 3 (outF (.int .i64 0) (.int .i64 0) (.slice none 0 0)) ∧ wb.heap.size ≤ W.heap.size ∧ Hid (TurnedAt wb (resW w' W.heap.size (.int .i64 T.W) (.int .i64 T.H) (.slice o' nT c')) W.heap.size c' nT o' T))) := fun W o c hp hb =>
                  (HTU.out (W.alloc (.cells #[.int .i64 0, .int .i64 0, .slice none 0 0] 74)) o c (IsSlice.below hp (balloc (Below.refl _ W) _))).mono fun e w' ⟨o', c', he, hown, hb'⟩ =>
                    have h9 : FTab (fun v : Value => v) w' W.heap.size 3 (outF (.int .i64 0) (.int .i64 0) (.slice none 0 0)) := FTab.below (outF_new W _ _ _ _) hb' (by simp)
                    ⟨o', c', he, bthen (balloc hb _) hb', h9, hb.size, TurnedAt.old (bthen (balloc hb _) hb') HNT.out hown hb.size (by simp) h9⟩
                have HT3 : Hid (∀ W o c, PxAt W o nG c (listI G) → Below wb.heap.size wb W → Calls Try.prog 27 #[.agg #[.int .i64 G.W, .int .i64 G.H, .slice o nG c], .int .i64 P.turn] W (fun e w' => ∃ o' c', e = .returned (.tuple #[.agg #[.int .i64 T.W, .int .i64 T.H, .slice o' nT c'], .int .i64 0]) ∧ Below wb.heap.size wb w' ∧ Hid (TurnedAt wb (w'.alloc (.cells #[.int .i64 T.W, .int .i64 T.H, .slice o' nT c'] 74)) w'.heap.size c' nT o' T))) := fun W o c hp hb =>
                  (HTU.out W o c hp).mono fun e w' ⟨o', c', he, hown, hb'⟩ => ⟨o', c', he, bthen hb hb', TurnedAt.fresh (bthen hb hb') HNT.out hown 74⟩
                obtain ⟨b0, b3, p0, p1, p2⟩ := HSX.out wb (Below.refl _ wb)
                obtain ⟨b0', b3', p0', p1', p2'⟩ := HSX.out (wb.alloc (.cells #[.int .i64 0, .int .i64 0, .slice none 0 0] 74)) (balloc (Below.refl _ wb) _)
                go_cut [26, 27] from 160 to 159 (fun s26 s27 wq => ∃ g26 c26 o26, s26 = .pointer (some ⟨g26, 0, none⟩) ∧ s27 = .int .i64 0 ∧ Hid (TurnedAt wb wq g26 c26 nT o26 T))
                case first =>
                  clear b0' b3' p0' p1' p2'
                  go_region_held3 (fun W => Below wb.heap.size wb W ∧ W.cell? ⟨wa.heap.size, 0, none⟩ = some (.int .i64 P.page) ∧ W.cell? ⟨wa.heap.size, 3, none⟩ = some (.int .i64 P.turn) ∧ W.cell? ⟨pb, poff + i * 3, none⟩ = some (.int .i64 G.W) ∧ W.cell? ⟨pb, poff + i * 3 + 1, none⟩ = some (.int .i64 G.H) ∧ W.cell? ⟨pb, poff + i * 3 + 2, none⟩ = some (.slice po nG pcap))
                    (first | (refine HSS2.out _ ?_; (first | assumption | exact (Below.refl _ wb).drew | exact (balloc (Below.refl _ wb) _).drew | exact balloc (by assumption) _ | exact HU.out.bel | exact hz9.setCell (by simp) _)))
                    (first | fail | (go_simp; go_at_call 26; (with_reducible refine HOA.out.mono ?_); rintro e w8 ⟨o8, c8, rfl, hp8, hz8, ht8, hl8⟩; have HP8 := Lib.hid hp8; have HT8 := Lib.hid ht8; clear hp8 ht8) | (go_simp; go_at_call 26; (with_reducible refine HOB.out.mono ?_); rintro e w8 ⟨o8, c8, rfl, hp8, hz8⟩; have HP8 := Lib.hid hp8; clear hp8) | (go_simp; go_at_call 27; (with_reducible refine (HT1.out w8 o8 c8 HP8.out hz8 HT8.out hl8).mono ?_); rintro e w9 ⟨o9, c9, rfl, hz9, ht9, HU⟩; have r0 : w9.cell? ⟨wb.heap.size, 0, none⟩ = some (.int .i64 0) := ht9.at' 0 (by omega); have r1 : w9.cell? ⟨wb.heap.size, 1, none⟩ = some (.int .i64 0) := ht9.at' 1 (by omega); have r2 : w9.cell? ⟨wb.heap.size, 2, none⟩ = some (.slice none 0 0) := ht9.at' 2 (by omega); have rf := ht9.fz; clear ht9) | (go_simp; go_at_call 27; (with_reducible refine (HT2.out w8 o8 c8 HP8.out hz8).mono ?_); rintro e w9 ⟨o9, c9, rfl, hz9, ht9, hg9, HU⟩; have r0 : w9.cell? ⟨w8.heap.size, 0, none⟩ = some (.int .i64 0) := ht9.at' 0 (by omega); have r1 : w9.cell? ⟨w8.heap.size, 1, none⟩ = some (.int .i64 0) := ht9.at' 1 (by omega); have r2 : w9.cell? ⟨w8.heap.size, 2, none⟩ = some (.slice none 0 0) := ht9.at' 2 (by omega); have rf := ht9.fz; clear ht9) | (go_simp; go_at_call 27; (with_reducible refine (HT3.out w8 o8 c8 HP8.out hz8).mono ?_); rintro e w9 ⟨o9, c9, rfl, hz9, HU⟩))
                  all_goals
                    go_wp2_with fail
                    go_meet
                    exact ⟨_, _, _, rfl, rfl, HU⟩
                case rest =>
                  obtain ⟨g26, c26, o26, rfl, rfl, HU⟩ := hcut
                  obtain ⟨wq, hwq⟩ : ∃ wq, wq = wc := ⟨_, rfl⟩
                  rw [← hwq] at HU ⊢
                  clear hwq b0 b3 p0 p1 p2 b0' b3' p0' p1' p2'
                  have hbq : Below wa.heap.size wa wq := HBB.out.trans (HU.out.bel.mono HBB.out.size)
                  have hgq := HTG.out.below hbq HBWW.out.2
                  have h25 := HT25.out.below HU.out.bel (by have := HZB.out; omega)
                  have hogq := HOG.out.below hbq
                  have e0 : wq.cell? ⟨g, 0, none⟩ = some (.int .i64 FW) := hgq.at' 0 (by omega)
                  have e1 : wq.cell? ⟨g, 1, none⟩ = some (.int .i64 FH) := hgq.at' 1 (by omega)
                  have e2 : wq.cell? ⟨g, 2, none⟩ = some (.slice og N kg) := hgq.at' 2 (by omega)
                  have d1 : wq.cell? ⟨wa.heap.size, 1, none⟩ = some (.int .i64 P.x) := h25.at' 1 (by omega)
                  have d2 : wq.cell? ⟨wa.heap.size, 2, none⟩ = some (.int .i64 P.y) := h25.at' 2 (by omega)
                  have q0 : wq.cell? ⟨g26, 0, none⟩ = some (.int .i64 T.W) := HU.out.tab.at' 0 (by omega)
                  have q1 : wq.cell? ⟨g26, 1, none⟩ = some (.int .i64 T.H) := HU.out.tab.at' 1 (by omega)
                  have q2 : wq.cell? ⟨g26, 2, none⟩ = some (.slice o26 nT c26) := HU.out.tab.at' 2 (by omega)
                  have hlC : ∀ (D : Img), D.W = FW → D.H = FH → (listI D).length = N := fun D h1 h2 => by
                    have h : (listI D).length = D.W * D.H := pixL_len _ _ _
                    rw [h, h1, h2, HNFW.out]
                  have HPA : Hid (Calls Try.prog 25 #[.agg #[.int .i64 FW, .int .i64 FH, .slice og N kg], .int .i64 P.x, .int .i64 P.y, .agg #[.int .i64 T.W, .int .i64 T.H, .slice o26 nT c26]] wq (RetGrid0 (pasteI C P.x P.y T) wq)) := by
                    have hl := hlC C HCS.out.1 HCS.out.2
                    have h := paste_any C T ⟨by rw [HCS.out.1]; omega, by rw [HCS.out.1]; omega, by rw [HCS.out.2]; omega, by rw [HCS.out.2]; omega⟩ HSZT.out og o26 kg c26 P.x P.y hpx hpy wq (by rw [hl]; exact OwnPx.at hogq) (by rw [← HU.out.ln]; exact HU.out.px) (by rw [← HU.out.ln]; exact HU.out.le)
                    rw [HCS.out.1, HCS.out.2, hl, ← HU.out.ln] at h
                    exact h
                  have HGQ := Lib.hid hgq
                  have HBQ := Lib.hid hbq
                  have HLC : Hid ((listI (pasteI C P.x P.y T)).length = N) := hlC _ HCS.out.1 HCS.out.2
                  clear hgq h25 hogq hbq hlC HOF HTU HSX HZA HU
                  go_wp2_with fail
                  refine HPA.out.mono ?_
                  intro e w9 hret
                  obtain ⟨o9, k9, he, hown9, hb9⟩ := hret
                  have he' : e = .returned (.tuple #[.agg #[.int .i64 FW, .int .i64 FH, .slice o9 N k9], .int .i64 0]) := by
                    rw [he, HLC.out]
                    show Ending.returned (.tuple #[.agg #[.int .i64 C.W, .int .i64 C.H, .slice o9 N k9], .int .i64 0]) = _
                    rw [HCS.out.1, HCS.out.2]
                  rw [HLC.out] at hown9
                  subst he'
                  clear he
                  have hg9 := HGQ.out.below hb9 (by have h1 := HBWW.out.2; have h2 := HBQ.out.size; omega)
                  have hrs := res_set (x := .int .i64 FW) (y := .int .i64 FH) (z := .slice o9 N k9) hg9
                  have e0 : w9.cell? ⟨g, 0, none⟩ = some (.int .i64 FW) := hg9.at' 0 (by omega)
                  have e1 : w9.cell? ⟨g, 1, none⟩ = some (.int .i64 FH) := hg9.at' 1 (by omega)
                  have e2 : w9.cell? ⟨g, 2, none⟩ = some (.slice og N kg) := hg9.at' 2 (by omega)
                  have ef := hg9.fz
                  have t3 := ((hg9.set (i := 0) (by omega) (.int .i64 FW)).set (i := 1) (by omega) (.int .i64 FH)).set (i := 2) (by omega) (.slice o9 N k9)
                  have HNX : Hid (Below w4.heap.size w4 (resW w9 g (.int .i64 FW) (.int .i64 FH) (.slice o9 N k9)) ∧ g < (resW w9 g (.int .i64 FW) (.int .i64 FH) (.slice o9 N k9)).heap.size ∧ ∃ o c, FTab (fun v : Value => v) (resW w9 g (.int .i64 FW) (.int .i64 FH) (.slice o9 N k9)) g 3 (outF (.int .i64 FW) (.int .i64 FH) (.slice o N c)) ∧ OwnPx (resW w9 g (.int .i64 FW) (.int .i64 FH) (.slice o9 N k9)) w4.heap.size (.slice o N c) (listI (foldI D gs (S.take (k + 1)))) ∧ (Value.slice o N c).ownBlock ≠ some g) := by
                    have hgl := HBWW.out.2
                    have hbs := HBQ.out.size
                    have h2 : OwnPx (resW w9 g (.int .i64 FW) (.int .i64 FH) (.slice o9 N k9)) wq.heap.size (.slice o9 N k9) (listI (pasteI C P.x P.y T)) := hown9.heap fun q e => hrs.hp q (by have h3 := (hown9.blk e).1; omega)
                    have h4 := HBWW.out.1.size
                    refine ⟨hrs.bel (HBWW.out.1.trans ((bthen HBQ.out hb9).mono h4)) HGG.out.2, by rw [hrs.sz]; have := hb9.size; omega, o9, k9, ⟨fun i hi => ?_, t3.fz⟩, ?_, fun e => by have := (hown9.blk e).1; omega⟩
                    · match i, hi with
                      | 0, _ => exact hrs.c0
                      | 1, _ => exact hrs.c1
                      | 2, _ => exact hrs.c2
                    · rw [HSN.out]
                      exact h2.rebase (by omega)
                  clear hrs hg9 t3 hown9 hb9 d1 d2 q0 q1 q2
                  dsimp only
                  unfold resW at HNX
                  go_wp2_with fail
                  go_roundw
                  case rel => exact ⟨k + 1, by omega, by go_num, HNX⟩
                  case measure => simp [intOf]; omega
              · obtain rfl : nS = k := by omega
                have htk : S.take nS = S := by rw [HNS.out]; exact List.take_length
                rw [htk] at hog
                obtain ⟨I, hII⟩ : ∃ I, I = foldI D gs S := ⟨_, rfl⟩
                have hIs : I.W = FW ∧ I.H = FH := by rw [hII, (foldI_size _ _ _).1, (foldI_size _ _ _).2]; exact HDS.out
                rw [← hII] at hog
                have HII2 := Lib.hid hII
                clear hII
                have hlI : (listI I).length = N := by
                  have h : (listI I).length = I.W * I.H := pixL_len _ _ _
                  rw [h, hIs.1, hIs.2, HNFW.out]
                have HPL : Hid (Calls Try.prog 28 #[.agg #[.int .i64 FW, .int .i64 FH, .slice og N kg]] wa (fun e w' => ∃ o c, e = .returned (.agg #[.int .i64 FW, .int .i64 FH, .slice o N c]) ∧ OwnPx w' wa.heap.size (.slice o N c) (listI I) ∧ Below wa.heap.size wa w')) := by
                  have h := plate_any I ⟨by rw [hIs.1]; omega, by rw [hIs.1]; omega, by rw [hIs.2]; omega, by rw [hIs.2]; omega⟩ og kg wa (by rw [hlI]; exact OwnPx.at hog)
                  unfold RetGrid at h
                  rw [hIs.1, hIs.2, hlI] at h
                  exact h
                have e0 : wa.cell? ⟨g, 0, none⟩ = some (.int .i64 FW) := htg.at' 0 (by omega)
                have e1 : wa.cell? ⟨g, 1, none⟩ = some (.int .i64 FH) := htg.at' 1 (by omega)
                have e2 : wa.cell? ⟨g, 2, none⟩ = some (.slice og N kg) := htg.at' 2 (by omega)
                have HBW2 := Lib.hid (HB4.out.trans (hbw.mono HB4.out.size))
                have HIS := Lib.hid (And.intro hIs hlI)
                clear htg hog hng hbw hIs hlI HY htk hgwa
                go_wp2_with fail
                refine HPL.out.mono ?_
                rintro e w9 ⟨o9, k9, rfl, hown9, hb9⟩
                have ht9 := HT2.out.below (bthen HBW2.out hb9) (by rw [HZ1.out]; omega)
                have hrs := res_set (x := .int .i64 FW) (y := .int .i64 FH) (z := .slice o9 N k9) ht9
                have HF : Hid (RetGrid0 I w (.returned (.tuple #[.agg #[.int .i64 FW, .int .i64 FH, .slice o9 N k9], .int .i64 0])) (resW w9 (w.heap.size + 1) (.int .i64 FW) (.int .i64 FH) (.slice o9 N k9))) := by
                  have hz := HZ1.out
                  have hs6 := HBW2.out.size
                  have h2 : OwnPx (resW w9 (w.heap.size + 1) (.int .i64 FW) (.int .i64 FH) (.slice o9 N k9)) wa.heap.size (.slice o9 N k9) (listI I) := hown9.heap fun q e => hrs.hp q (by have h3 := (hown9.blk e).1; omega)
                  refine ⟨o9, k9, by rw [HIS.out.1.1, HIS.out.1.2, HIS.out.2], ?_, hrs.bel (bthen (bthen HB1.out HBW2.out) hb9) (by omega)⟩
                  rw [HIS.out.2]
                  exact h2.rebase (Nat.le_trans HB1.out.size hs6)
                have r0 : w9.cell? ⟨w.heap.size + 1, 0, none⟩ = some (.int .i64 0) := ht9.at' 0 (by omega)
                have r1 : w9.cell? ⟨w.heap.size + 1, 1, none⟩ = some (.int .i64 0) := ht9.at' 1 (by omega)
                have r2 : w9.cell? ⟨w.heap.size + 1, 2, none⟩ = some (.slice none 0 0) := ht9.at' 2 (by omega)
                have rf := ht9.fz
                have HRS := Lib.hid hrs
                clear hrs ht9 hown9 hb9
                dsimp only
                repeat (first | go_values | go_skip | go_guarded | go_step | go_upon)
                obtain ⟨W9, hW9⟩ : ∃ W9, W9 = resW w9 (w.heap.size + 1) (.int .i64 FW) (.int .i64 FH) (.slice o9 N k9) := ⟨_, rfl⟩
                rw [← hW9] at HF HRS
                unfold resW at hW9
                rw [← hW9]
                have e0 := HRS.out.c0
                have e1 := HRS.out.c1
                have e2 := HRS.out.c2
                clear hW9
                refine bodyPost_ret (v := .tuple #[.agg #[.int .i64 FW, .int .i64 FH, .slice o9 N k9], .int .i64 0]) (by simp only [results, iplRes]; go_simp) rfl ?_
                exact ⟨D, by rw [HFW.out.1]; exact HDS.out.1, by rw [HFW.out.2]; exact HDS.out.2, by rw [← HII2.out]; exact HF.out⟩
end Go.Proofs.Ytdblibjmgamjeaa
