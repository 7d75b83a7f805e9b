/-
  The walks of Grown's closure, Turned's closure, bitmap.Grown. Own text.
-/
import Derived.Test.YtcadgjhfdolejaaFrom
namespace Go.Proofs.Ytcadgjhfdolejaa
open Go.RowKit
set_option linter.unusedVariables false
/-- A bit, and those beside it. -/
def nearP (p : Plane) : Plane := fun x y => p x y || p (x - 1) y || p (x + 1) y || p x (y - 1) || p x (y + 1)
/-- A quarter turn: height H. -/
def quarP (H : Nat) (p : Plane) : Plane := fun x y => p y ((H : Int) - 1 - x)
set_option maxRecDepth 100000 in
set_option maxHeartbeats 4000000 in
theorem near_any (g d c W H : Nat) (p : Plane) (hW : W ≤ 1024) (hH : H ≤ 1024) (x y : Nat) (hx : x < W) (hy : y < H) (w : World) (h : BitsAt w g d c W H p) :
    Calls Try.prog 38 #[.int .i64 x, .int .i64 y, .pointer (some ⟨g, 0, none⟩)] w (Quiet (.bool (nearP p x y)) w) := by
  have HI : Hid (∀ (X Y : Int) n, Calls Try.prog 21 #[.pointer (some ⟨g, 0, none⟩), .int .i64 X, .int .i64 Y] (w.drewN n) (Quiet (.bool (p X Y)) (w.drewN n))) := fun X Y n => is_any g d c W H p hW hH X Y _ (h.drewN n)
  have x1 : IntKind.i64.wrap ((x : Int) - 1) = (x : Int) - 1 := IntWalk.i64_in _ (by omega)
  have x2 : IntKind.i64.wrap ((x : Int) + 1) = (x : Int) + 1 := IntWalk.i64_in _ (by omega)
  have x3 : IntKind.i64.wrap ((y : Int) - 1) = (y : Int) - 1 := IntWalk.i64_in _ (by omega)
  have x4 : IntKind.i64.wrap ((y : Int) + 1) = (y : Int) + 1 := IntWalk.i64_in _ (by omega)
  obtain ⟨b1, hb1⟩ : ∃ b, b = p x y := ⟨_, rfl⟩
  obtain ⟨b2, hb2⟩ : ∃ b, b = p (x - 1) y := ⟨_, rfl⟩
  obtain ⟨b3, hb3⟩ : ∃ b, b = p (x + 1) y := ⟨_, rfl⟩
  obtain ⟨b4, hb4⟩ : ∃ b, b = p x (y - 1) := ⟨_, rfl⟩
  obtain ⟨b5, hb5⟩ : ∃ b, b = p x (y + 1) := ⟨_, rfl⟩
  have HG : Hid (nearP p x y = (b1 || b2 || b3 || b4 || b5)) := by show nearP p x y = _; rw [hb1, hb2, hb3, hb4, hb5]; rfl
  have H1 : Hid (Calls Try.prog 21 #[.pointer (some ⟨g, 0, none⟩), .int .i64 x, .int .i64 y] w (Quiet (.bool b1) w)) := by rw [hb1]; exact HI.out _ _ 0
  have H2 : Hid (∀ n, Calls Try.prog 21 #[.pointer (some ⟨g, 0, none⟩), .int .i64 ((x : Int) - 1), .int .i64 y] (w.drewN n) (Quiet (.bool b2) (w.drewN n))) := by rw [hb2]; exact fun n => HI.out _ _ n
  have H3 : Hid (∀ n, Calls Try.prog 21 #[.pointer (some ⟨g, 0, none⟩), .int .i64 ((x : Int) + 1), .int .i64 y] (w.drewN n) (Quiet (.bool b3) (w.drewN n))) := by rw [hb3]; exact fun n => HI.out _ _ n
  have H4 : Hid (∀ n, Calls Try.prog 21 #[.pointer (some ⟨g, 0, none⟩), .int .i64 x, .int .i64 ((y : Int) - 1)] (w.drewN n) (Quiet (.bool b4) (w.drewN n))) := by rw [hb4]; exact fun n => HI.out _ _ n
  have H5 : Hid (∀ n, Calls Try.prog 21 #[.pointer (some ⟨g, 0, none⟩), .int .i64 x, .int .i64 ((y : Int) + 1)] (w.drewN n) (Quiet (.bool b5) (w.drewN n))) := by rw [hb5]; exact fun n => HI.out _ _ n
  clear hb1 hb2 hb3 hb4 hb5 HI h
  go_enter Try.func38, Try.ntmps38
  go_wp2_with fail
  refine H1.out.mono ?_
  rintro e w1 ⟨rfl, n1, rfl⟩
  cases b1 with
  | true =>
    go_wp2
    go_ret
    exact ⟨by rw [HG.out]; rfl, _, rfl⟩
  | false =>
    go_wp2_with fail
    refine (H2.out n1).mono ?_
    rintro e w1 ⟨rfl, n2, rfl⟩
    simp only [World.drewN_drewN]
    cases b2 with
    | true =>
      go_wp2
      go_ret
      exact ⟨by rw [HG.out]; rfl, _, rfl⟩
    | false =>
      go_wp2_with fail
      refine (H3.out (n1 + n2)).mono ?_
      rintro e w1 ⟨rfl, n3, rfl⟩
      simp only [World.drewN_drewN]
      cases b3 with
      | true =>
        go_wp2
        go_ret
        exact ⟨by rw [HG.out]; rfl, _, rfl⟩
      | false =>
        go_wp2_with fail
        refine (H4.out (n1 + n2 + n3)).mono ?_
        rintro e w1 ⟨rfl, n4, rfl⟩
        simp only [World.drewN_drewN]
        cases b4 with
        | true =>
          go_wp2
          go_ret
          exact ⟨by rw [HG.out]; rfl, _, rfl⟩
        | false =>
          go_wp2_with fail
          refine (H5.out (n1 + n2 + n3 + n4)).mono ?_
          rintro e w1 ⟨rfl, n5, rfl⟩
          simp only [World.drewN_drewN]
          go_wp2
          go_ret
          exact ⟨by rw [HG.out]; rfl, _, rfl⟩
set_option maxRecDepth 100000 in
set_option maxHeartbeats 4000000 in
theorem quar_any (g d c W H : Nat) (p : Plane) (hW : W ≤ 1024) (hH : 1 ≤ H ∧ H ≤ 1024) (x y : Nat) (hx : x < H) (hy : y < W) (w : World) (h : BitsAt w g d c W H p) :
    Calls Try.prog 40 #[.int .i64 x, .int .i64 y, .pointer (some ⟨g, 0, none⟩)] w (Quiet (.bool (quarP H p x y)) w) := by
  have H1 : Hid (Calls Try.prog 21 #[.pointer (some ⟨g, 0, none⟩), .int .i64 y, .int .i64 ((H : Int) - 1 - x)] w (Quiet (.bool (quarP H p x y)) w)) := is_any g d c W H p hW hH.2 y _ w h
  have x1 : IntKind.i64.wrap ((H : Int) - 1) = (H : Int) - 1 := IntWalk.i64_in _ (by omega)
  have x2 : IntKind.i64.wrap ((H : Int) - 1 - x) = (H : Int) - 1 - x := IntWalk.i64_in _ (by omega)
  have c1 := h.c1
  clear h
  go_enter Try.func40, Try.ntmps40
  go_wp2_with fail
  refine H1.out.mono ?_
  rintro e w1 ⟨rfl, n1, rfl⟩
  go_wp2
  go_ret
  exact ⟨rfl, _, rfl⟩
/-- The bytes as a row that can be appended. -/
theorem Dat.row {w : World} {d W H : Nat} {p : Plane} (h : Dat w d W H p) (hm : strV W * H ≤ maxLen) (c : Nat) :
    ∃ xs : List Nat, IsSlice w 1 (enc1 encB) (.slice (some ⟨d, 0, none⟩) (strV W * H) c) xs ∧ xs.length = strV W * H ∧ ∀ w' base e g cap, Arr w' base e encB g cap xs → Dat w' g W H p := by
  obtain ⟨t, h1, h2⟩ := h
  have hl : ((List.range (strV W * H)).map t).length = strV W * H := by simp
  refine ⟨(List.range (strV W * H)).map t, ⟨some ⟨d, 0, none⟩, c, by rw [hl], fun e => (by cases e), by rw [hl]; exact hm, fun i hi j hj => ?_⟩, hl, fun w' base e g cap ha => ⟨t, ⟨fun i hi => ?_, fun o => ha.frozen o⟩, h2⟩⟩
  · rw [hl] at hi
    obtain rfl : j = 0 := by omega
    refine ⟨encB (t i), by simp [enc1], d, 0, rfl, ?_⟩
    rw [show 0 + (i * 1 + 0) = i by omega]
    exact h1.at' i hi
  · have hc := ha.cell (i := i) (by rw [hl]; exact hi)
    rw [hc]
    simp
theorem T3.set2 {w : World} {g : Nat} {x y z : Value} (h : T3 w g x y z) (u : Value) : T3 (w.setCell ⟨g, 2, none⟩ u) g x y u :=
  (FTab.set h (i := 2) (by omega) u).congr fun i hi => by
    match i, hi with
    | 0, _ => rfl
    | 1, _ => rfl
    | 2, _ => rfl
theorem own_arr {α : Type} {f : α → Value} {w : World} {base : Nat} {e : TypeId} {v : Value} {xs : List α} (h : Own w base e 1 (enc1 f) v xs) (h0 : 0 < xs.length) : ∃ g cap, v = .slice (some ⟨g, 0, none⟩) xs.length cap ∧ Arr w base e f g cap xs ∧ xs.length ≤ cap ∧ base ≤ g ∧ g < w.heap.size := by
  rcases h.2 with ⟨rfl, hn⟩ | ⟨g, cap, cur, rfl, hb, hg, hc, -⟩
  · omega
  · exact ⟨g, cap, rfl, h, hc, hb, (Array.getElem?_eq_some_iff.1 hg).1⟩
/-- The bitmap under way: its cells in g, its bytes in d, the result's block r. -/
structure GnU (w : World) (r g d c W H : Nat) (wr : World) (p : Plane) : Prop where
  bel : Below w.heap.size w wr
  tab : T3 wr g (.int .i64 W) (.int .i64 H) (.slice (some ⟨d, 0, none⟩) (strV W * H) c)
  res : T3 wr r (.int .i64 0) (.int .i64 0) (.slice none 0 0)
  dat : Dat wr d W H p
  lt : w.heap.size ≤ r ∧ r < wr.heap.size ∧ w.heap.size ≤ g ∧ g < wr.heap.size ∧ w.heap.size ≤ d ∧ d < wr.heap.size ∧ g ≠ r ∧ d ≠ r ∧ d ≠ g ∧ strV W * H ≤ c
theorem GnU.below {w wr w' : World} {r g d c W H : Nat} {p : Plane} (h : GnU w r g d c W H wr p) (hb : Below wr.heap.size wr w') : GnU w r g d c W H w' p := by
  obtain ⟨l1, l2, l3, l4, l5, l6, l7, l8, l9, l10⟩ := h.lt
  have hs := hb.size
  exact ⟨h.bel.trans (hb.mono h.bel.size), h.tab.below hb, h.res.below hb, h.dat.below hb l6, l1, by omega, l3, by omega, l5, by omega, l7, l8, l9, l10⟩
/-- Another bitmap is stored. -/
theorem GnU.put {w wr w' : World} {r g d c W H d' c' W' H' : Nat} {p p' : Plane} (h : GnU w r g d c W H wr p) (hb : Below wr.heap.size wr w') (hd : Dat w' d' W' H' p') (h1 : wr.heap.size ≤ d') (h2 : d' < w'.heap.size) (h3 : strV W' * H' ≤ c') :
    GnU w r g d' c' W' H' (resW w' g (.int .i64 W') (.int .i64 H') (.slice (some ⟨d', 0, none⟩) (strV W' * H') c')) p' := by
  obtain ⟨l1, l2, l3, l4, l5, l6, l7, l8, l9, l10⟩ := h.lt
  have hs := hb.size
  have hbs := h.bel.size
  obtain ⟨t3, o3⟩ := res_set (x := .int .i64 W') (y := .int .i64 H') (z := .slice (some ⟨d', 0, none⟩) (strV W' * H') c') (h.tab.below hb)
  refine ⟨o3.bel (h.bel.trans (hb.mono h.bel.size)) l3, t3, (h.res.below hb).heap (o3.hp r (fun e => l7 e.symm)), hd.heap (o3.hp d' (by omega)), l1, by rw [o3.sz]; omega, l3, by rw [o3.sz]; omega, by omega, by rw [o3.sz]; omega, l7, by omega, by omega, h3⟩
def growN (W H : Nat) (p : Plane) : Nat → Plane
  | 0 => p
  | n + 1 => cutP W H (nearP (growN W H p n))
theorem grownRes : Try.f20.results = #[.cell 4 29] := rfl
set_option maxRecDepth 100000 in
set_option maxHeartbeats 8000000 in
theorem grown_any (g0 d0 c0 W H : Nat) (p : Plane) (hW : 1 ≤ W ∧ W ≤ 1024) (hH : 1 ≤ H ∧ H ≤ 1024) (N : Nat) (hN : N ≤ 16) (w : World) (h : BitsAt w g0 d0 c0 W H p) :
    Calls Try.prog 20 #[.pointer (some ⟨g0, 0, none⟩), .int .i64 N] w (RetBits W H (growN W H p N) w) := by
  have hml : 0 < strV W * H ∧ strV W * H ≤ 128 * 1024 := ⟨Nat.mul_pos (by unfold strV; omega) (by omega), Nat.mul_le_mul (str_bd hW.2) hH.2⟩
  obtain ⟨wa, hwa⟩ : ∃ wa, wa = w.alloc (.cells #[.int .i64 0, .int .i64 0, .slice none 0 0] 29) := ⟨_, rfl⟩
  have HWA : Hid (w.alloc (.cells #[.int .i64 0, .int .i64 0, .slice none 0 0] 29) = wa) := hwa.symm
  have hba : Below w.heap.size w wa := by rw [hwa]; exact balloc (Below.refl _ w) _
  have hza : wa.heap.size = w.heap.size + 1 := by rw [hwa]; simp
  have hta : T3 wa w.heap.size (.int .i64 0) (.int .i64 0) (.slice none 0 0) := by rw [hwa]; exact T3.new w _ _ _ _
  have hat := h.below hba (by omega) (by omega)
  obtain ⟨m, hm⟩ : ∃ m, m = strV W * H := ⟨_, rfl⟩
  obtain ⟨a0, a1, a2, had⟩ := hat
  rw [← hm] at a2
  obtain ⟨wb, hwb⟩ : ∃ wb, wb = wa.alloc (.cells #[.int .i64 W, .int .i64 H, .slice (some ⟨d0, 0, none⟩) m c0] 29) := ⟨_, rfl⟩
  have HWB : Hid (wa.alloc (.cells #[.int .i64 W, .int .i64 H, .slice (some ⟨d0, 0, none⟩) m c0] 29) = wb) := hwb.symm
  have hbb : Below wa.heap.size wa wb := by rw [hwb]; exact balloc (Below.refl _ wa) _
  have hzb : wb.heap.size = w.heap.size + 1 + 1 := by rw [hwb]; simp; omega
  have htb : T3 wb (w.heap.size + 1) (.int .i64 W) (.int .i64 H) (.slice (some ⟨d0, 0, none⟩) m c0) := by rw [hwb, ← hza]; exact T3.new wa _ _ _ _
  have hrb := hta.below hbb
  have hdb := had.below hbb (had.lt (by omega) (by omega))
  obtain ⟨xs, hsl, hxl, hdx⟩ := hdb.row (by unfold maxLen; omega) c0
  rw [← hm] at hsl hxl
  have b2 := keepCell hbb a2
  have HSL := Lib.hid hsl
  have HXL := Lib.hid hxl
  have HB : Hid (Below w.heap.size w wb) := bthen hba hbb
  have HT : Hid (T3 wb (w.heap.size + 1) (.int .i64 W) (.int .i64 H) (.slice (some ⟨d0, 0, none⟩) m c0) ∧ T3 wb w.heap.size (.int .i64 0) (.int .i64 0) (.slice none 0 0) ∧ wb.heap.size = w.heap.size + 1 + 1) := ⟨htb, hrb, hzb⟩
  have HM : Hid (m = strV W * H ∧ 0 < m ∧ m ≤ 128 * 1024) := ⟨hm, by omega, by omega⟩
  have hown : Own wb wb.heap.size 5 1 (enc1 encB) (.slice none 0 0) ([] : List Nat) := Own.nil _ _ _ _ _
  have ZA : Hid (wa.heap.size = w.heap.size + 1) := hza
  clear hwa hwb hta hba hbb hsl hxl htb hrb had hml h hm hza hzb hdb
  go_enter Try.func20, Try.ntmps20
  go_upto_region 1 with fail
  rw [HWA.out]
  clear HWA
  go_upto_region 2 with fail
  rw [HWB.out, ZA.out]
  clear HWB a0 a1 a2
  go_wp2_with (at_builtin; go_must (refine wpList_appRow rfl (.const (.slice none 0 0)) (.tmp 13) 27 rfl elemU8 Try.underlying27 wb.heap.size _ [] (enc1 encB) rfl hown xs _ rfl HSL.out (fun _ => rfl) ?c1 ?c2 ?c3 ?c4 ?_))
  case c1 => intro y; simp [enc1, encB, Value.oneCell']
  case c2 => have := HXL.out; have := HM.out; simp; omega
  case c3 => have := HXL.out; have := HM.out; simp; unfold maxLen; omega
  case c4 => exact Nat.le_refl _
  intro v' w3 hown3 hg3
  have hown4 : Own w3 wb.heap.size 5 1 (enc1 encB) v' xs := by simpa using hown3
  obtain ⟨d1, k1, rfl, ha, hk1, hd1, hd2⟩ := own_arr hown4 (by have := HXL.out; have := HM.out; omega)
  rw [HXL.out] at hk1 ⊢
  have hbz := hown.grown HB.out (by have := HB.out.size; exact this) hg3
  obtain ⟨ht5, ht4, hzb⟩ := HT.out
  have t5 : T3 w3 (w.heap.size + 1) (.int .i64 W) (.int .i64 H) (.slice (some ⟨d0, 0, none⟩) m c0) := ht5.heap (hg3.block _ ht5.lt (fun e => by cases e))
  have t4 : T3 w3 w.heap.size (.int .i64 0) (.int .i64 0) (.slice none 0 0) := ht4.heap (hg3.block _ ht4.lt (fun e => by cases e))
  have hs3 := hg3.size
  have hd3 := hdx w3 wb.heap.size _ d1 k1 ha
  obtain ⟨W5, hW5⟩ : ∃ W5, W5 = w3.setCell ⟨w.heap.size + 1, 2, none⟩ (.slice (some ⟨d1, 0, none⟩) m k1) := ⟨_, rfl⟩
  have ho := Only.set w3 (w.heap.size + 1) 2 (.slice (some ⟨d1, 0, none⟩) m k1)
  have HU : Hid (GnU w w.heap.size (w.heap.size + 1) d1 k1 W H W5 p) := by
    have e := HM.out.1
    rw [← hW5] at ho
    refine ⟨ho.bel hbz (by omega), by rw [hW5, ← e]; exact t5.set2 _, t4.heap (ho.hp _ (by omega)), hd3.heap (ho.hp _ (by omega)), Nat.le_refl _, by rw [ho.sz]; omega, by omega, by rw [ho.sz]; omega, by omega, by rw [ho.sz]; omega, by omega, by omega, by omega, by rw [← e]; exact hk1⟩
  have f2 := t5.c2
  have ff := t5.fr
  have HW5 : Hid (w3.setCell ⟨w.heap.size + 1, 2, none⟩ (.slice (some ⟨d1, 0, none⟩) m k1) = W5) := hW5.symm
  have HM1 := HM
  have HMS : Hid (strV W * H = m) := HM.out.1.symm
  clear hown3 hown4 hg3 ha hk1 hd1 hd2 hbz ht5 ht4 hzb t5 t4 hs3 hd3 hW5 ho hown HSL HXL hdx HT HM b2 HB ZA
  go_upto_region 3 with fail
  rw [HW5.out]
  clear HW5 f2 ff
  obtain ⟨r, hr⟩ : ∃ r, r = w.heap.size := ⟨_, rfl⟩
  obtain ⟨g, hg⟩ : ∃ g, g = w.heap.size + 1 := ⟨_, rfl⟩
  rw [← hg, ← hr] at HU ⊢
  have HR := Lib.hid hr
  clear hr hg
  go_wp2_with fail
  go_loopw [17] (fun i wr => ∃ k : Nat, k ≤ N ∧ i = .int .i64 k ∧ Hid (∃ d c, GnU w r g d c W H wr (growN W H p k))) (fun i _ => N - (intOf i).toNat)
  case atStart => exact ⟨0, by omega, rfl, d1, k1, HU.out⟩
  case round =>
    clear HU
    obtain ⟨k, hk, rfl, HX⟩ := hrel
    obtain ⟨wq, rfl⟩ : ∃ wb : World, wb = wr := ⟨_, rfl⟩
    obtain ⟨d, c, hx⟩ := HX.out
    by_cases hlt : k < N
    · have kd : (k : Int) < (N : Int) := by omega
      have e0 := hx.tab.c0
      have e1 := hx.tab.c1
      have e2 := hx.tab.c2
      rw [HMS.out] at e2
      obtain ⟨w6, hw6⟩ : ∃ w6, w6 = wq.alloc (.cells #[.int .i64 W, .int .i64 H, .slice (some ⟨d, 0, none⟩) m c] 29) := ⟨_, rfl⟩
      have hb6 : Below wq.heap.size wq w6 := by rw [hw6]; exact balloc (Below.refl _ _) _
      have t6 : T3 w6 wq.heap.size (.int .i64 W) (.int .i64 H) (.slice (some ⟨d, 0, none⟩) m c) := by rw [hw6]; exact T3.new wq _ _ _ _
      have hx6 := hx.below hb6
      have HFR : Hid (Calls Try.prog 37 #[.int .i64 W, .int .i64 H, .func (.func 38) #[] #[.pointer (some ⟨wq.heap.size, 0, none⟩)]] w6 (RetBits W H (growN W H p (k + 1)) w6)) := by
        refine fromG_any W H hW hH _ wq.heap.size w6 fun Wd x y hx' hy' hbd => near_any wq.heap.size d c W H _ hW.2 hH.2 x y hx' hy' Wd ?_
        have t7 := t6.below hbd
        rw [← HMS.out] at t7
        exact ⟨t7.c0, t7.c1, t7.c2, hx6.dat.below hbd hx6.lt.2.2.2.2.2.1⟩
      have HX6 := Lib.hid hx6
      have f0 := t6.c0
      have f1 := t6.c1
      have f2 := t6.c2
      have HW6 : Hid (wq.alloc (.cells #[.int .i64 W, .int .i64 H, .slice (some ⟨d, 0, none⟩) m c] 29) = w6) := hw6.symm
      clear hx hx6 hb6 t6 HX hw6
      go_upto_region 6 with fail
      rw [HW6.out]
      clear HW6 e0 e1 e2
      go_wp2_with fail
      refine HFR.out.mono ?_
      intro e w7 hret
      obtain ⟨d', c', rfl, hd', hd1', hd2', hc', hb7⟩ := hret
      have hU := HX6.out.put hb7 hd' hd1' hd2' hc'
      have t7 := HX6.out.tab.below hb7
      have r0 := t7.c0
      have r1 := t7.c1
      have r2 := t7.c2
      have rf := t7.fr
      have HNX : Hid (∃ d c, GnU w r g d c W H (resW w7 g (.int .i64 W) (.int .i64 H) (.slice (some ⟨d', 0, none⟩) m c')) (growN W H p (k + 1))) := by rw [HMS.out] at hU; exact ⟨d', c', hU⟩
      rw [HMS.out] at r2 ⊢
      unfold resW at HNX
      clear hU t7 hd' hd1' hd2' hc' hb7 HX6 HFR f0 f1 f2
      dsimp only
      go_upto_region 7 with fail
      go_wp2_with fail
      go_roundw
      case rel => exact ⟨k + 1, by omega, by go_num, HNX⟩
      case measure => simp [intOf]; omega
    · obtain rfl : N = k := by omega
      obtain ⟨l1, l2, l3, l4, l5, l6, l7, l8, l9, l10⟩ := hx.lt
      have z0 := hx.tab.c0
      have z1 := hx.tab.c1
      have z2 := hx.tab.c2
      have r0 := hx.res.c0
      have r1 := hx.res.c1
      have r2 := hx.res.c2
      have rf := hx.res.fr
      obtain ⟨hT9, hO9⟩ := res_set (x := .int .i64 W) (y := .int .i64 H) (z := .slice (some ⟨d, 0, none⟩) m c) hx.res
      have HF : Hid (RetBits W H (growN W H p N) w (.returned (.agg #[.int .i64 W, .int .i64 H, .slice (some ⟨d, 0, none⟩) m c])) (resW wq r (.int .i64 W) (.int .i64 H) (.slice (some ⟨d, 0, none⟩) m c))) := by
        refine ⟨d, c, by rw [HMS.out], hx.dat.heap (hO9.hp d l8), l5, by rw [hO9.sz]; exact l6, l10, hO9.bel hx.bel l1⟩
      rw [HMS.out] at z2
      have HT9 := Lib.hid hT9
      clear hx HX hT9 hO9 HM1 HMS hk hlt l1 l2 l3 l4 l5 l6 l7 l8 l9 l10
      repeat (first | go_values | go_skip | go_guarded | go_step | go_upon)
      obtain ⟨W9, hW9⟩ : ∃ W9, W9 = resW wq r (.int .i64 W) (.int .i64 H) (.slice (some ⟨d, 0, none⟩) m c) := ⟨_, rfl⟩
      rw [← hW9] at HF HT9
      unfold resW at hW9
      rw [← hW9]
      have e0 := HT9.out.c0
      have e1 := HT9.out.c1
      have e2 := HT9.out.c2
      clear hW9
      refine bodyPost_ret (v := .agg #[.int .i64 W, .int .i64 H, .slice (some ⟨d, 0, none⟩) m c]) (by simp only [results, grownRes]; go_simp) rfl ?_
      exact HF.out
end Go.Proofs.Ytcadgjhfdolejaa
