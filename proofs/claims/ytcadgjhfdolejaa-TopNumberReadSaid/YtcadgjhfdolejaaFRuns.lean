/-
  The walk of bitmap.FromRuns at runs in order. Own text.
-/
import Derived.Test.YtcadgjhfdolejaaRuns
import Derived.Test.YtcadgjhfdolejaaGrow
namespace Go.Proofs.Ytcadgjhfdolejaa
open Go.RowKit
set_option linter.unusedVariables false
/-- A stretch of a row more. -/
def partP (p : Plane) (Y a x : Nat) : Plane := fun X y => p X y || (decide (y = Y) && decide ((a : Int) ≤ X) && decide (X < x))
def runsP (rs : List (Nat × Nat × Nat)) : Plane := rs.foldl (fun p r => partP p r.1 r.2.1 r.2.2) noneP
theorem runsP_snoc (rs : List (Nat × Nat × Nat)) (r : Nat × Nat × Nat) : runsP (rs ++ [r]) = partP (runsP rs) r.1 r.2.1 r.2.2 := by
  unfold runsP
  rw [List.foldl_append]; rfl
theorem partP_zero (p : Plane) (Y a : Nat) : partP p Y a a = p := by
  funext X y
  refine bool_ext ?_
  simp only [partP, Bool.or_eq_true, Bool.and_eq_true, decide_eq_true_eq]
  constructor
  · rintro (h | h)
    · exact h
    · omega
  · exact fun h => .inl h
theorem partP_succ (p : Plane) (Y a x : Nat) (h : a ≤ x) : partP p Y a (x + 1) = markP (partP p Y a x) x Y := by
  funext X y
  refine bool_ext ?_
  simp only [partP, markP, Bool.or_eq_true, Bool.and_eq_true, decide_eq_true_eq]
  constructor
  · rintro (h | ⟨⟨h1, h2⟩, h3⟩)
    · exact .inl (.inl h)
    · by_cases e : X = x
      · exact .inr ⟨e, h1⟩
      · exact .inl (.inr ⟨⟨h1, h2⟩, by omega⟩)
  · rintro ((h | ⟨⟨h1, h2⟩, h3⟩) | ⟨h1, h2⟩)
    · exact .inl h
    · exact .inr ⟨⟨h1, h2⟩, by omega⟩
    · exact .inr ⟨⟨h2, by omega⟩, by omega⟩
/-- The runs lie inside, in order, and do not touch. -/
structure RunsOk (W H : Nat) (rs : List (Nat × Nat × Nat)) : Prop where
  inn : ∀ i (h : i < rs.length), rs[i].1 < H ∧ rs[i].2.1 < rs[i].2.2 ∧ rs[i].2.2 ≤ W
  ord : ∀ i (h : i + 1 < rs.length), rs[i].1 < rs[i + 1].1 ∨ (rs[i].1 = rs[i + 1].1 ∧ rs[i].2.2 < rs[i + 1].2.1)
theorem Flat.run {w : World} {oa : Option Addr} {l : List (Nat × Nat × Nat)} (h : Flat w 3 encRun oa l) {i : Nat} (hi : i < l.length) :
    ∃ b off, oa = some ⟨b, off, none⟩ ∧ w.cell? ⟨b, off + i * 3, none⟩ = some (.int .i64 l[i].1) ∧ w.cell? ⟨b, off + i * 3 + 1, none⟩ = some (.int .i64 l[i].2.1) ∧ w.cell? ⟨b, off + i * 3 + 2, none⟩ = some (.int .i64 l[i].2.2) := by
  obtain ⟨v0, h0, b, off, e0, c0⟩ := h i hi 0 (by omega)
  obtain ⟨v1, h1, b1, off1, e1, c1⟩ := h i hi 1 (by omega)
  obtain ⟨v2, h2, b2, off2, e2, c2⟩ := h i hi 2 (by omega)
  rw [e0] at e1 e2
  simp only [Option.some.injEq, Addr.mk.injEq, and_true] at e1 e2
  obtain ⟨rfl, rfl⟩ := e1
  obtain ⟨rfl, rfl⟩ := e2
  simp only [encRun, List.getElem?_cons_zero, List.getElem?_cons_succ, Option.some.injEq] at h0 h1 h2
  subst h0 h1 h2
  exact ⟨b, off, e0, c0, c1, c2⟩
theorem GnU.mark {w wr w' : World} {r g d c W H : Nat} {p p' : Plane} (h : GnU w r g d c W H wr p) (hm : BitsAt w' g d c W H p') (ho : Only d wr w') : GnU w r g d c W H w' p' := by
  obtain ⟨l1, l2, l3, l4, l5, l6, l7, l8, l9, l10⟩ := h.lt
  exact ⟨ho.bel h.bel l5, h.tab.heap (ho.hp g (fun e => l9 e.symm)), h.res.heap (ho.hp r (fun e => l8 e.symm)), hm.dat, l1, by rw [ho.sz]; exact l2, l3, by rw [ho.sz]; exact l4, l5, by rw [ho.sz]; exact l6, l7, l8, l9, l10⟩
theorem GnU.at' {w wr : World} {r g d c W H : Nat} {p : Plane} (h : GnU w r g d c W H wr p) : BitsAt wr g d c W H p := ⟨h.tab.c0, h.tab.c1, h.tab.c2, h.dat⟩
/-- A bitmap of the call's own is returned, and 0. -/
def RetBits0 (W H : Nat) (p : Plane) (w : World) (e : Ending) (w' : World) : Prop :=
  ∃ d c, e = .returned (.tuple #[.agg #[.int .i64 W, .int .i64 H, .slice (some ⟨d, 0, none⟩) (strV W * H) c], .int .i64 0]) ∧ Dat w' d W H p ∧ w.heap.size ≤ d ∧ d < w'.heap.size ∧ strV W * H ≤ c ∧ Below w.heap.size w w'
theorem frunsRes : Try.f8.results = #[.cell 6 29, .tmp 7] := rfl
set_option maxRecDepth 100000 in
set_option maxHeartbeats 8000000 in
theorem fruns_any (W H : Nat) (hW : 1 ≤ W ∧ W ≤ 1024) (hH : 1 ≤ H ∧ H ≤ 1024) (rs : List (Nat × Nat × Nat)) (hok : RunsOk W H rs) (hm : rs.length ≤ 2000000) (oa : Option Addr) (cap : Nat) (w : World) (hfl : Flat w 3 encRun oa rs) :
    Calls Try.prog 8 #[.int .i64 W, .int .i64 H, .slice oa rs.length cap] w (RetBits0 W H (runsP rs) w) := by
  obtain ⟨n, hn⟩ : ∃ n, n = rs.length := ⟨_, rfl⟩
  obtain ⟨wa, hwa⟩ : ∃ wa, wa = w.alloc (.cells #[.int .i64 0, .int .i64 0, .slice none 0 0] 29) := ⟨_, rfl⟩
  have HWA : Hid (w.alloc (.cells #[.int .i64 0, .int .i64 0, .slice none 0 0] 29) = wa) := hwa.symm
  have HT : Hid (T3 wa w.heap.size (.int .i64 0) (.int .i64 0) (.slice none 0 0)) := by rw [hwa]; exact T3.new w _ _ _ _
  have HB : Hid (Below w.heap.size w wa ∧ w.heap.size < wa.heap.size) := by rw [hwa]; exact ⟨balloc (Below.refl _ w) _, by simp⟩
  have HBL : Hid (Calls Try.prog 15 #[.int .i64 W, .int .i64 H] wa (RetBits W H noneP wa)) := blank_any W H hW.2 hH.2 wa
  have HFL := Lib.hid hfl
  have HOK := Lib.hid hok
  have HN := Lib.hid hn
  have hn2 : n ≤ 2000000 := by omega
  obtain ⟨hW1, hW2⟩ := hW
  obtain ⟨hH1, hH2⟩ := hH
  rw [← hn]
  clear hwa hfl hok hn hm
  go_enter Try.func8, Try.ntmps8
  go_upto_region 1 with fail
  rw [HWA.out]
  clear HWA
  have t1 : decide ((W : Int) < 1) = false := decide_eq_false (by omega)
  have t2 : decide (1024 < (W : Int)) = false := decide_eq_false (by omega)
  have t3 : decide ((H : Int) < 1) = false := decide_eq_false (by omega)
  have t4 : decide (1024 < (H : Int)) = false := decide_eq_false (by omega)
  go_wp2_with fail
  refine HBL.out.mono ?_
  intro e w2 hret
  clear t1 t2 t3 t4
  obtain ⟨d, c, rfl, hd, hd1, hd2, hc, hb2⟩ := hret
  obtain ⟨m, hm⟩ : ∃ m, m = strV W * H := ⟨_, rfl⟩
  obtain ⟨W3, hW3⟩ : ∃ W3, W3 = w2.alloc (.cells #[.int .i64 W, .int .i64 H, .slice (some ⟨d, 0, none⟩) m c] 29) := ⟨_, rfl⟩
  have HU : Hid (GnU w w.heap.size w2.heap.size d c W H W3 noneP) := by
    have h1 := HB.out
    have hb3 : Below w2.heap.size w2 W3 := by rw [hW3]; exact balloc (Below.refl _ _) _
    have hz3 : w2.heap.size < W3.heap.size := by rw [hW3]; simp
    have hs2 := hb2.size
    refine ⟨bthen h1.1 (bthen hb2 hb3), by rw [hW3, hm]; exact T3.new w2 _ _ _ _, (HT.out.below hb2).below hb3, hd.below hb3 hd2, Nat.le_refl _, by omega, by omega, hz3, by omega, by omega, by omega, by omega, by omega, hc⟩
  rw [← hm]
  have HW3 : Hid (w2.alloc (.cells #[.int .i64 W, .int .i64 H, .slice (some ⟨d, 0, none⟩) m c] 29) = W3) := hW3.symm
  have HM : Hid (strV W * H = m) := hm.symm
  obtain ⟨g, hg⟩ : ∃ g, g = w2.heap.size := ⟨_, rfl⟩
  rw [← hg] at HU
  have HG := Lib.hid hg
  clear hm hW3 hd hd1 hd2 hc hb2 HT HB HBL hg
  dsimp only
  go_upto_region 4 with fail
  rw [HW3.out, ← HG.out]
  clear HW3
  go_wp2_with fail
  go_loopw [32] (fun i wr => ∃ k : Nat, k ≤ n ∧ i = .int .i64 k ∧ Hid (GnU w w.heap.size g d c W H wr (runsP (rs.take k)))) (fun i _ => n - (intOf i).toNat)
  case atStart => exact ⟨0, by omega, rfl, HU⟩
  case round =>
    clear HU
    obtain ⟨k, hk, rfl, HX⟩ := hrel
    obtain ⟨wb, rfl⟩ : ∃ wb : World, wb = wr := ⟨_, rfl⟩
    by_cases hlt : k < n
    · have kd : (k : Int) < (n : Int) := by omega
      have hkr : k < rs.length := by rw [← HN.out]; exact hlt
      have hflb := HFL.out.below HX.out.bel
      obtain ⟨b, off, rfl, f0, f1, f2⟩ := Flat.run hflb hkr
      obtain ⟨Y, a, x, hr⟩ : ∃ Y a x, rs[k] = (Y, a, x) := ⟨_, _, _, rfl⟩
      obtain ⟨i1, i2, i3⟩ := HOK.out.inn k hkr
      rw [hr] at f0 f1 f2 i1 i2 i3
      simp only at f0 f1 f2 i1 i2 i3
      have HTK : Hid (runsP (rs.take (k + 1)) = partP (runsP (rs.take k)) Y a x) := by
        show _ = _
        rw [List.take_succ_eq_append_getElem hkr, hr, runsP_snoc]
      obtain ⟨w6, hw6⟩ : ∃ w6, w6 = wb.alloc (.cells #[.int .i64 Y, .int .i64 a, .int .i64 x] 37) := ⟨_, rfl⟩
      have hb6 : Below wb.heap.size wb w6 := by rw [hw6]; exact balloc (Below.refl _ _) _
      have q6 : T3 w6 wb.heap.size (.int .i64 Y) (.int .i64 a) (.int .i64 x) := by rw [hw6]; exact T3.new wb _ _ _ _
      have HW6 : Hid (wb.alloc (.cells #[.int .i64 Y, .int .i64 a, .int .i64 x] 37) = w6) := hw6.symm
      have HX6 := Lib.hid (HX.out.below hb6)
      have HFL6 := Lib.hid (hflb.below hb6)
      have HQ6 := Lib.hid q6
      have HRK : Hid (rs[k] = (Y, a, x)) := hr
      have HLT : Hid (d < wb.heap.size) := HX.out.lt.2.2.2.2.2.1
      clear hw6 hb6 q6 hflb hr HX
      go_upto_region 7 with fail
      rw [HW6.out]
      clear HW6 f0 f1 f2
      have f0 := HQ6.out.c0
      have f1 := HQ6.out.c1
      have f2 := HQ6.out.c2
      have n1 : decide ((Y : Int) < 0) = false := decide_eq_false (by omega)
      have n2 : decide ((H : Int) ≤ (Y : Int)) = false := decide_eq_false (by omega)
      have n3 : decide ((a : Int) < 0) = false := decide_eq_false (by omega)
      have n4 : decide ((W : Int) < (x : Int)) = false := decide_eq_false (by omega)
      have n5 : decide ((x : Int) ≤ (a : Int)) = false := decide_eq_false (by omega)
      have n2' : decide (H ≤ Y) = false := decide_eq_false (by omega)
      have n4' : decide (W < x) = false := decide_eq_false (by omega)
      have n5' : decide (x ≤ a) = false := decide_eq_false (by omega)
      go_upto_region 9 with fail
      by_cases hk0 : k = 0
      · have m1 : decide (0 < (k : Int)) = false := decide_eq_false (by omega)
        have m1' : decide (0 < k) = false := decide_eq_false (by omega)
        clear hk0
        go_quiet (fail)
        clear m1 m1'
        clear n1 n2 n3 n4 n5 n2' n4' n5'
        have HXD : Hid (GnU w w.heap.size g d c W H (w6.drewN nq) (partP (runsP (rs.take k)) Y a a)) := by show GnU _ _ _ _ _ _ _ _ _; rw [partP_zero]; exact HX6.out.below (bdrewN (Below.refl _ _) _)
        have HQD : Hid (T3 (w6.drewN nq) wb.heap.size (.int .i64 Y) (.int .i64 a) (.int .i64 x)) := HQ6.out.drewN nq
        have HNE : Hid (wb.heap.size ≠ d ∧ wb.heap.size < w6.heap.size) := by
          have h := HLT.out
          exact ⟨by omega, HQ6.out.lt⟩
        have c0' := HQD.out.c0
        have c1' := HQD.out.c1
        have c2' := HQD.out.c2
        clear HX6 HFL6 HQ6 f0 f1 f2
        go_wp2_with fail
        go_loopw [11] (fun i wr => ∃ q : Nat, a ≤ q ∧ q ≤ x ∧ i = .int .i64 q ∧ Hid (GnU w w.heap.size g d c W H wr (partP (runsP (rs.take k)) Y a q) ∧ T3 wr wb.heap.size (.int .i64 Y) (.int .i64 a) (.int .i64 x))) (fun i _ => x - (intOf i).toNat)
        case atStart => exact ⟨a, by omega, by omega, rfl, HXD.out, HQD.out⟩
        case round =>
          clear HXD HQD c0' c1' c2'
          obtain ⟨q, hq1, hq2, rfl, HY⟩ := hrel
          obtain ⟨wq, rfl⟩ : ∃ wb : World, wb = wr := ⟨_, rfl⟩
          have e0 := HY.out.2.c0
          have e2 := HY.out.2.c2
          by_cases hql : q < x
          · have kq : (q : Int) < (x : Int) := by omega
            have xq : IntKind.i64.wrap ((q : Int) + 1) = (q : Int) + 1 := IntWalk.i64_in _ (by omega)
            have HMK : Hid (Calls Try.prog 16 #[.pointer (some ⟨g, 0, none⟩), .int .i64 q, .int .i64 Y] wq (RetMark g d c W H (markP (partP (runsP (rs.take k)) Y a q) q Y) wq)) :=
              mark_any g d c W H _ hW2 hH2 (fun e => HY.out.1.lt.2.2.2.2.2.2.2.2.1 e.symm) q Y (by omega) i1 _ HY.out.1.at'
            go_wp2_with fail
            refine HMK.out.mono ?_
            rintro e w8 ⟨rfl, hb8, ho8⟩
            have HNX : Hid (GnU w w.heap.size g d c W H w8 (partP (runsP (rs.take k)) Y a (q + 1)) ∧ T3 w8 wb.heap.size (.int .i64 Y) (.int .i64 a) (.int .i64 x)) := ⟨by rw [partP_succ _ _ _ _ hq1]; exact HY.out.1.mark hb8 ho8, HY.out.2.heap (ho8.hp _ HNE.out.1)⟩
            clear HY HMK hb8 ho8 e0 e2
            go_wp2_with fail
            go_roundw
            case rel => exact ⟨q + 1, by omega, by omega, by go_num, HNX⟩
            case measure => simp [intOf]; omega
          · obtain rfl : x = q := by omega
            have HNX : Hid (GnU w w.heap.size g d c W H wq (runsP (rs.take (k + 1)))) := by show GnU _ _ _ _ _ _ _ _ _; rw [HTK.out]; exact HY.out.1
            have xk1 : IntKind.i64.wrap ((k : Int) + 1) = (k : Int) + 1 := IntWalk.i64_in _ (by omega)
            clear HY
            go_wp2_with fail
            go_roundw
            case rel => exact ⟨k + 1, by omega, by go_num, HNX⟩
            case measure => simp [intOf]; omega
      · have m1 : decide (0 < (k : Int)) = true := decide_eq_true (by omega)
        have m1' : decide (0 < k) = true := decide_eq_true (by omega)
        obtain ⟨j, hj⟩ : ∃ j, k = j + 1 := ⟨k - 1, by omega⟩
        have hjr : j < rs.length := by omega
        have xk : IntKind.i64.wrap ((k : Int) - 1) = (j : Int) := by rw [show (k : Int) - 1 = (j : Int) by omega]; exact IntWalk.i64_in _ (by omega)
        have hjn : j < n := by omega
        obtain ⟨b', off', e', g0, g1, g2⟩ := Flat.run HFL6.out hjr
        simp only [Option.some.injEq, Addr.mk.injEq, and_true] at e'
        obtain ⟨rfl, rfl⟩ := e'
        have hord := HOK.out.ord j (by omega)
        have hk' : rs[j + 1]'(by omega) = (Y, a, x) := by simp only [← hj]; exact HRK.out
        rw [hk'] at hord
        obtain ⟨Yp, ap, xp, hrj⟩ : ∃ Yp ap xp, rs[j] = (Yp, ap, xp) := ⟨_, _, _, rfl⟩
        rw [hrj] at g0 g1 g2 hord
        simp only at g0 g1 g2 hord
        clear hk' hrj hj
        rcases hord with ho | ⟨ho1, ho2⟩
        · have o1 : decide ((Y : Int) < (Yp : Int)) = false := decide_eq_false (by omega)
          have o1' : decide (Y < Yp) = false := decide_eq_false (by omega)
          have o2 : ((Y : Int) == (Yp : Int)) = false := by rw [beq_eq_false_iff_ne]; omega
          have o2' : decide (Y = Yp) = false := decide_eq_false (by omega)
          have o2n : ¬ Y = Yp := by omega
          go_quiet (fail)
          clear m1 m1' o1 o1' o2 o2' o2n g0 g1 g2 xk
          clear n1 n2 n3 n4 n5 n2' n4' n5'
          have HXD : Hid (GnU w w.heap.size g d c W H (w6.drewN nq) (partP (runsP (rs.take k)) Y a a)) := by show GnU _ _ _ _ _ _ _ _ _; rw [partP_zero]; exact HX6.out.below (bdrewN (Below.refl _ _) _)
          have HQD : Hid (T3 (w6.drewN nq) wb.heap.size (.int .i64 Y) (.int .i64 a) (.int .i64 x)) := HQ6.out.drewN nq
          have HNE : Hid (wb.heap.size ≠ d ∧ wb.heap.size < w6.heap.size) := by
            have h := HLT.out
            exact ⟨by omega, HQ6.out.lt⟩
          have c0' := HQD.out.c0
          have c1' := HQD.out.c1
          have c2' := HQD.out.c2
          clear HX6 HFL6 HQ6 f0 f1 f2
          go_wp2_with fail
          go_loopw [11] (fun i wr => ∃ q : Nat, a ≤ q ∧ q ≤ x ∧ i = .int .i64 q ∧ Hid (GnU w w.heap.size g d c W H wr (partP (runsP (rs.take k)) Y a q) ∧ T3 wr wb.heap.size (.int .i64 Y) (.int .i64 a) (.int .i64 x))) (fun i _ => x - (intOf i).toNat)
          case atStart => exact ⟨a, by omega, by omega, rfl, HXD.out, HQD.out⟩
          case round =>
            clear HXD HQD c0' c1' c2'
            obtain ⟨q, hq1, hq2, rfl, HY⟩ := hrel
            obtain ⟨wq, rfl⟩ : ∃ wb : World, wb = wr := ⟨_, rfl⟩
            have e0 := HY.out.2.c0
            have e2 := HY.out.2.c2
            by_cases hql : q < x
            · have kq : (q : Int) < (x : Int) := by omega
              have xq : IntKind.i64.wrap ((q : Int) + 1) = (q : Int) + 1 := IntWalk.i64_in _ (by omega)
              have HMK : Hid (Calls Try.prog 16 #[.pointer (some ⟨g, 0, none⟩), .int .i64 q, .int .i64 Y] wq (RetMark g d c W H (markP (partP (runsP (rs.take k)) Y a q) q Y) wq)) :=
                mark_any g d c W H _ hW2 hH2 (fun e => HY.out.1.lt.2.2.2.2.2.2.2.2.1 e.symm) q Y (by omega) i1 _ HY.out.1.at'
              go_wp2_with fail
              refine HMK.out.mono ?_
              rintro e w8 ⟨rfl, hb8, ho8⟩
              have HNX : Hid (GnU w w.heap.size g d c W H w8 (partP (runsP (rs.take k)) Y a (q + 1)) ∧ T3 w8 wb.heap.size (.int .i64 Y) (.int .i64 a) (.int .i64 x)) := ⟨by rw [partP_succ _ _ _ _ hq1]; exact HY.out.1.mark hb8 ho8, HY.out.2.heap (ho8.hp _ HNE.out.1)⟩
              clear HY HMK hb8 ho8 e0 e2
              go_wp2_with fail
              go_roundw
              case rel => exact ⟨q + 1, by omega, by omega, by go_num, HNX⟩
              case measure => simp [intOf]; omega
            · obtain rfl : x = q := by omega
              have HNX : Hid (GnU w w.heap.size g d c W H wq (runsP (rs.take (k + 1)))) := by show GnU _ _ _ _ _ _ _ _ _; rw [HTK.out]; exact HY.out.1
              have xk1 : IntKind.i64.wrap ((k : Int) + 1) = (k : Int) + 1 := IntWalk.i64_in _ (by omega)
              clear HY
              go_wp2_with fail
              go_roundw
              case rel => exact ⟨k + 1, by omega, by go_num, HNX⟩
              case measure => simp [intOf]; omega
        · subst ho1
          have o1 : decide ((Yp : Int) < (Yp : Int)) = false := decide_eq_false (by omega)
          have o1' : decide (Yp < Yp) = false := decide_eq_false (by omega)
          have o3 : decide ((a : Int) ≤ (xp : Int)) = false := decide_eq_false (by omega)
          have o3' : decide (a ≤ xp) = false := decide_eq_false (by omega)
          go_quiet (fail)
          clear m1 m1' o1 o1' o3 o3' g0 g1 g2 xk
          clear n1 n2 n3 n4 n5 n2' n4' n5'
          have HXD : Hid (GnU w w.heap.size g d c W H (w6.drewN nq) (partP (runsP (rs.take k)) Yp a a)) := by show GnU _ _ _ _ _ _ _ _ _; rw [partP_zero]; exact HX6.out.below (bdrewN (Below.refl _ _) _)
          have HQD : Hid (T3 (w6.drewN nq) wb.heap.size (.int .i64 Yp) (.int .i64 a) (.int .i64 x)) := HQ6.out.drewN nq
          have HNE : Hid (wb.heap.size ≠ d ∧ wb.heap.size < w6.heap.size) := by
            have h := HLT.out
            exact ⟨by omega, HQ6.out.lt⟩
          have c0' := HQD.out.c0
          have c1' := HQD.out.c1
          have c2' := HQD.out.c2
          clear HX6 HFL6 HQ6 f0 f1 f2
          go_wp2_with fail
          go_loopw [11] (fun i wr => ∃ q : Nat, a ≤ q ∧ q ≤ x ∧ i = .int .i64 q ∧ Hid (GnU w w.heap.size g d c W H wr (partP (runsP (rs.take k)) Yp a q) ∧ T3 wr wb.heap.size (.int .i64 Yp) (.int .i64 a) (.int .i64 x))) (fun i _ => x - (intOf i).toNat)
          case atStart => exact ⟨a, by omega, by omega, rfl, HXD.out, HQD.out⟩
          case round =>
            clear HXD HQD c0' c1' c2'
            obtain ⟨q, hq1, hq2, rfl, HY⟩ := hrel
            obtain ⟨wq, rfl⟩ : ∃ wb : World, wb = wr := ⟨_, rfl⟩
            have e0 := HY.out.2.c0
            have e2 := HY.out.2.c2
            by_cases hql : q < x
            · have kq : (q : Int) < (x : Int) := by omega
              have xq : IntKind.i64.wrap ((q : Int) + 1) = (q : Int) + 1 := IntWalk.i64_in _ (by omega)
              have HMK : Hid (Calls Try.prog 16 #[.pointer (some ⟨g, 0, none⟩), .int .i64 q, .int .i64 Yp] wq (RetMark g d c W H (markP (partP (runsP (rs.take k)) Yp a q) q Yp) wq)) :=
                mark_any g d c W H _ hW2 hH2 (fun e => HY.out.1.lt.2.2.2.2.2.2.2.2.1 e.symm) q Yp (by omega) i1 _ HY.out.1.at'
              go_wp2_with fail
              refine HMK.out.mono ?_
              rintro e w8 ⟨rfl, hb8, ho8⟩
              have HNX : Hid (GnU w w.heap.size g d c W H w8 (partP (runsP (rs.take k)) Yp a (q + 1)) ∧ T3 w8 wb.heap.size (.int .i64 Yp) (.int .i64 a) (.int .i64 x)) := ⟨by rw [partP_succ _ _ _ _ hq1]; exact HY.out.1.mark hb8 ho8, HY.out.2.heap (ho8.hp _ HNE.out.1)⟩
              clear HY HMK hb8 ho8 e0 e2
              go_wp2_with fail
              go_roundw
              case rel => exact ⟨q + 1, by omega, by omega, by go_num, HNX⟩
              case measure => simp [intOf]; omega
            · obtain rfl : x = q := by omega
              have HNX : Hid (GnU w w.heap.size g d c W H wq (runsP (rs.take (k + 1)))) := by show GnU _ _ _ _ _ _ _ _ _; rw [HTK.out]; exact HY.out.1
              have xk1 : IntKind.i64.wrap ((k : Int) + 1) = (k : Int) + 1 := IntWalk.i64_in _ (by omega)
              clear HY
              go_wp2_with fail
              go_roundw
              case rel => exact ⟨k + 1, by omega, by go_num, HNX⟩
              case measure => simp [intOf]; omega
    · obtain rfl : n = k := by omega
      have hx := HX.out
      obtain ⟨l1, l2, l3, l4, l5, l6, l7, l8, l9, l10⟩ := hx.lt
      have z0 := hx.tab.c0
      have z1 := hx.tab.c1
      have z2 := hx.tab.c2
      have r0 := hx.res.c0
      have r1 := hx.res.c1
      have r2 := hx.res.c2
      have rf := hx.res.fr
      obtain ⟨hT9, hO9⟩ := res_set (x := .int .i64 W) (y := .int .i64 H) (z := .slice (some ⟨d, 0, none⟩) m c) hx.res
      have HF : Hid (RetBits0 W H (runsP rs) w (.returned (.tuple #[.agg #[.int .i64 W, .int .i64 H, .slice (some ⟨d, 0, none⟩) m c], .int .i64 0])) (resW wb w.heap.size (.int .i64 W) (.int .i64 H) (.slice (some ⟨d, 0, none⟩) m c))) := by
        have htk : rs.take n = rs := List.take_of_length_le (by rw [HN.out]; exact Nat.le_refl _)
        rw [htk] at hx
        refine ⟨d, c, by rw [HM.out], hx.dat.heap (hO9.hp d l8), l5, by rw [hO9.sz]; exact l6, l10, hO9.bel hx.bel l1⟩
      rw [HM.out] at z2
      have HT9 := Lib.hid hT9
      clear hx HX hT9 hO9 HM hk hlt l1 l2 l3 l4 l5 l6 l7 l8 l9 l10 HOK
      repeat (first | go_values | go_skip | go_guarded | go_step | go_upon)
      obtain ⟨W9, hW9⟩ : ∃ W9, W9 = resW wb w.heap.size (.int .i64 W) (.int .i64 H) (.slice (some ⟨d, 0, none⟩) m c) := ⟨_, rfl⟩
      rw [← hW9] at HF HT9
      unfold resW at hW9
      rw [← hW9]
      have e0 := HT9.out.c0
      have e1 := HT9.out.c1
      have e2 := HT9.out.c2
      clear hW9
      refine bodyPost_ret (v := .tuple #[.agg #[.int .i64 W, .int .i64 H, .slice (some ⟨d, 0, none⟩) m c], .int .i64 0]) (by simp only [results, frunsRes]; go_simp) rfl ?_
      exact HF.out
end Go.Proofs.Ytcadgjhfdolejaa
