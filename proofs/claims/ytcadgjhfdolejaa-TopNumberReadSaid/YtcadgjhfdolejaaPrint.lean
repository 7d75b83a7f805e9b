/-
  The walk of sheet.Print at one bitmap. Own text.
-/
import Derived.Test.YtcadgjhfdolejaaSheet
import Derived.Test.YtcadgjhfdolejaaTurn
import Derived.Deep.DrawnRows
namespace Go.Proofs.Ytcadgjhfdolejaa
open Go.RowKit
set_option linter.unusedVariables false
/-- The bytes of a mask: 1 where the plane is set, up to place k. -/
def mskT (q : Plane) (W k : Nat) : Nat → Nat := fun i => if (decide (i < k) && q ((i % W : Nat) : Int) ((i / W : Nat) : Int)) = true then 1 else 0
theorem mskT_zero (q : Plane) (W : Nat) : mskT q W 0 = fun _ => 0 := by
  funext i
  unfold mskT
  rw [decide_eq_false (by omega : ¬ i < 0), Bool.false_and]; rfl
theorem place_mod {W x y : Nat} (h : x < W) : (y * W + x) % W = x ∧ (y * W + x) / W = y := by
  have hW : 0 < W := by omega
  refine ⟨?_, ?_⟩
  · rw [Nat.mul_comm, Nat.mul_add_mod, Nat.mod_eq_of_lt h]
  · rw [Nat.mul_comm, Nat.mul_add_div hW, Nat.div_eq_of_lt h, Nat.add_zero]
theorem mskT_no {q : Plane} {W x y : Nat} (h : x < W) (hq : q x y = false) : mskT q W (y * W + x + 1) = mskT q W (y * W + x) := by
  funext i
  unfold mskT
  by_cases e : i = y * W + x
  · obtain ⟨e1, e2⟩ := place_mod (y := y) h
    rw [e, e1, e2, hq, Bool.and_false, Bool.and_false]
  · rw [show decide (i < y * W + x + 1) = decide (i < y * W + x) from decide_eq_decide.2 (by omega)]
theorem mskT_at (q : Plane) (W k : Nat) : mskT q W k k = 0 := by
  unfold mskT
  rw [decide_eq_false (by omega : ¬ k < k), Bool.false_and]; rfl
theorem mskT_yes {q : Plane} {W x y : Nat} (h : x < W) (hq : q x y = true) : mskT q W (y * W + x + 1) = fun i => if i = y * W + x then 1 else mskT q W (y * W + x) i := by
  funext i
  by_cases e : i = y * W + x
  · obtain ⟨e1, e2⟩ := place_mod (y := y) h
    rw [if_pos e, e]
    unfold mskT
    rw [e1, e2, hq, decide_eq_true (by omega : y * W + x < y * W + x + 1)]; rfl
  · rw [if_neg e]
    unfold mskT
    rw [show decide (i < y * W + x + 1) = decide (i < y * W + x) from decide_eq_decide.2 (by omega)]
/-- The mask under way: its cells in g, its bytes in d, the result's block r. -/
structure MkU (w : World) (r g d c W H : Nat) (wr : World) (t : Nat → Nat) : Prop where
  bel : Below w.heap.size w wr
  tab : T3 wr g (.int .i64 W) (.int .i64 H) (.slice (some ⟨d, 0, none⟩) (W * H) c)
  res : T3 wr r (.int .i64 0) (.int .i64 0) (.slice none 0 0)
  dat : FTab encB wr d (W * H) t
  lt : w.heap.size ≤ r ∧ r < wr.heap.size ∧ w.heap.size ≤ g ∧ g < wr.heap.size ∧ w.heap.size ≤ d ∧ d < wr.heap.size ∧ g ≠ r ∧ d ≠ r ∧ d ≠ g ∧ W * H ≤ c
theorem MkU.below {w wr w' : World} {r g d c W H : Nat} {t : Nat → Nat} (h : MkU w r g d c W H wr t) (hb : Below wr.heap.size wr w') : MkU w r g d c W H w' t := by
  obtain ⟨l1, l2, l3, l4, l5, l6, l7, l8, l9, l10⟩ := h.lt
  have hs := hb.size
  exact ⟨h.bel.trans (hb.mono h.bel.size), h.tab.below hb, h.res.below hb, h.dat.below hb l6, l1, by omega, l3, by omega, l5, by omega, l7, l8, l9, l10⟩
theorem MkU.one (w w2 : World) (W H : Nat) (hb : Below w.heap.size w w2) (hr : T3 w2 w.heap.size (.int .i64 0) (.int .i64 0) (.slice none 0 0)) :
    MkU w w.heap.size (w2.heap.size + 1) w2.heap.size (W * H) W H ((w2.alloc (.cells (madeArr (.int .u8 0) (W * H)) 5)).alloc (.cells #[.int .i64 W, .int .i64 H, .slice (some ⟨w2.heap.size, 0, none⟩) (W * H) (W * H)] 40)).drew fun _ => 0 := by
  have hs := hb.size
  have hl := hr.lt
  have h1 := balloc (Below.refl _ (w2.alloc (.cells (madeArr (.int .u8 0) (W * H)) 5))) (.cells #[.int .i64 W, .int .i64 H, .slice (some ⟨w2.heap.size, 0, none⟩) (W * H) (W * H)] 40)
  have ht := T3.new (w2.alloc (.cells (madeArr (.int .u8 0) (W * H)) 5)) (.int .i64 W) (.int .i64 H) (.slice (some ⟨w2.heap.size, 0, none⟩) (W * H) (W * H)) 40
  rw [World.size_alloc] at ht
  have hd := (FTab.made encB w2 (W * H) 0 5).below h1 (by simp)
  refine ⟨(balloc (balloc hb _) _).drew, ht.drew, ((hr.below (balloc (Below.refl _ _) _)).below h1).drew, hd.drew, Nat.le_refl _, ?_, ?_, ?_, hs, ?_, ?_, ?_, ?_, Nat.le_refl _⟩ <;> (first | omega | (simp; done) | (simp; omega))
theorem MkU.two (w w2 : World) (W H : Nat) (hb : Below w.heap.size w w2) (hr : T3 w2 w.heap.size (.int .i64 0) (.int .i64 0) (.slice none 0 0)) :
    MkU w w.heap.size w2.heap.size (w2.heap.size + 1) (W * H) W H ((w2.alloc (.cells #[.int .i64 W, .int .i64 H, .slice (some ⟨w2.heap.size + 1, 0, none⟩) (W * H) (W * H)] 40)).alloc (.cells (madeArr (.int .u8 0) (W * H)) 5)).drew fun _ => 0 := by
  have hs := hb.size
  have hl := hr.lt
  have ht := T3.new w2 (.int .i64 W) (.int .i64 H) (.slice (some ⟨w2.heap.size + 1, 0, none⟩) (W * H) (W * H)) 40
  have h1 := balloc (Below.refl _ (w2.alloc (.cells #[.int .i64 W, .int .i64 H, .slice (some ⟨w2.heap.size + 1, 0, none⟩) (W * H) (W * H)] 40))) (.cells (madeArr (.int .u8 0) (W * H)) 5)
  have hd := FTab.made encB (w2.alloc (.cells #[.int .i64 W, .int .i64 H, .slice (some ⟨w2.heap.size + 1, 0, none⟩) (W * H) (W * H)] 40)) (W * H) 0 5
  rw [World.size_alloc] at hd
  refine ⟨(balloc (balloc hb _) _).drew, (ht.below h1).drew, ((hr.below (balloc (Below.refl _ _) _)).below h1).drew, hd.drew, Nat.le_refl _, ?_, ?_, ?_, ?_, ?_, ?_, ?_, ?_, Nat.le_refl _⟩ <;> (first | omega | (simp; done) | (simp; omega))
/-- A mask of the call's own is returned, and 0. -/
def RetMask (W H : Nat) (q : Plane) (w : World) (e : Ending) (w' : World) : Prop :=
  ∃ d c, e = .returned (.tuple #[.agg #[.int .i64 W, .int .i64 H, .slice (some ⟨d, 0, none⟩) (W * H) c], .int .i64 0]) ∧ FTab encB w' d (W * H) (mskT q W (W * H)) ∧ w.heap.size ≤ d ∧ d < w'.heap.size ∧ W * H ≤ c ∧ Below w.heap.size w w'
theorem PrB.one {w4 wx : World} {d1 c1 W H : Nat} {p : Plane} (hd : Dat wx d1 W H p) (h1 : w4.heap.size ≤ d1) (h2 : d1 < wx.heap.size) (hz : Below w4.heap.size w4 wx) :
    BitsAt (wx.alloc (.cells #[.int .i64 W, .int .i64 H, .slice (some ⟨d1, 0, none⟩) (strV W * H) c1] 29)) wx.heap.size d1 c1 W H p ∧ Below w4.heap.size w4 (wx.alloc (.cells #[.int .i64 W, .int .i64 H, .slice (some ⟨d1, 0, none⟩) (strV W * H) c1] 29)) ∧ w4.heap.size ≤ wx.heap.size ∧ w4.heap.size ≤ d1 := by
  have t := T3.new wx (.int .i64 W) (.int .i64 H) (.slice (some ⟨d1, 0, none⟩) (strV W * H) c1) 29
  exact ⟨⟨t.c0, t.c1, t.c2, hd.below (balloc (Below.refl _ wx) _) h2⟩, balloc hz _, hz.size, h1⟩
theorem PrB.two {w4 wx : World} {d1 c1 W H : Nat} {p : Plane} (hd : Dat wx d1 W H p) (h1 : w4.heap.size < d1) (hz : Below w4.heap.size w4 wx) (ha : T3 wx w4.heap.size (.int .i64 0) (.int .i64 0) (.slice none 0 0)) :
    BitsAt (resW wx w4.heap.size (.int .i64 W) (.int .i64 H) (.slice (some ⟨d1, 0, none⟩) (strV W * H) c1)) w4.heap.size d1 c1 W H p ∧ Below w4.heap.size w4 (resW wx w4.heap.size (.int .i64 W) (.int .i64 H) (.slice (some ⟨d1, 0, none⟩) (strV W * H) c1)) ∧ w4.heap.size ≤ w4.heap.size ∧ w4.heap.size ≤ d1 := by
  obtain ⟨t, o⟩ := res_set (x := .int .i64 W) (y := .int .i64 H) (z := .slice (some ⟨d1, 0, none⟩) (strV W * H) c1) ha
  exact ⟨⟨t.c0, t.c1, t.c2, hd.heap (o.hp d1 (by omega))⟩, o.bel hz (Nat.le_refl _), Nat.le_refl _, by omega⟩
theorem MkU.put {w wr : World} {r g d c W H x y : Nat} {q : Plane} (h : MkU w r g d c W H wr (mskT q W (y * W + x))) (hx : x < W) (hy : y < H) (hq : q x y = true) : MkU w r g d c W H (wr.setCell ⟨d, y * W + x, none⟩ (.int .u8 1)) (mskT q W (y * W + x + 1)) := by
  obtain ⟨l1, l2, l3, l4, l5, l6, l7, l8, l9, l10⟩ := h.lt
  have ho := Only.set wr d (y * W + x) (.int .u8 1)
  have hi : y * W + x < W * H := row_lt hy hx
  refine ⟨ho.bel h.bel l5, h.tab.heap (ho.hp g (fun e => l9 e.symm)), h.res.heap (ho.hp r (fun e => l8 e.symm)), (h.dat.set hi 1).congr fun i _ => by rw [mskT_yes hx hq], l1, by rw [ho.sz]; exact l2, l3, by rw [ho.sz]; exact l4, l5, by rw [ho.sz]; exact l6, l7, l8, l9, l10⟩
theorem or_one : bits .or .u8 0 1 = 1 := by decide +kernel
theorem wrap_one : IntKind.u8.wrap 1 = 1 := by decide +kernel
theorem printRes : Try.f9.results = #[.cell 6 40, .tmp 7] := rfl
def shiftP (p : Plane) (sx sy : Int) : Plane := fun x y => p (x - sx) (y - sy)
set_option maxRecDepth 100000 in
set_option maxHeartbeats 8000000 in
theorem print_any (bl bg bs d c cl cg cs W H gr : Nat) (sx sy : Int) (p : Plane) (hW : 1 ≤ W ∧ W ≤ 1024) (hH : 1 ≤ H ∧ H ≤ 1024) (hgr : gr ≤ 16) (hsx : -1024 ≤ sx ∧ sx ≤ 1024) (hsy : -1024 ≤ sy ∧ sy ≤ 1024) (w : World) (h : PrA w bl bg bs d c W H gr sx sy p) :
    Calls Try.prog 9 #[.slice (some ⟨bl, 0, none⟩) 1 cl, .slice (some ⟨bg, 0, none⟩) 1 cg, .slice (some ⟨bs, 0, none⟩) 1 cs] w (RetMask W H (shiftP (growN W H p gr) sx sy) w) := by
  obtain ⟨q, hq⟩ : ∃ q : Plane, q = shiftP (growN W H p gr) sx sy := ⟨_, rfl⟩
  rw [← hq]
  have HQ := Lib.hid hq
  clear hq
  obtain ⟨n, hn⟩ : ∃ n, n = W * H := ⟨_, rfl⟩
  have hnb : n ≤ 1024 * 1024 := by rw [hn]; exact Nat.mul_le_mul hW.2 hH.2
  have x1 : IntKind.i64.wrap ((W : Int) * (H : Int)) = (n : Int) := by rw [hn, ← Int.natCast_mul]; exact IntWalk.i64_in _ (by rw [← hn]; omega)
  obtain ⟨m, hm⟩ : ∃ m, m = strV W * H := ⟨_, rfl⟩
  have HM := Lib.hid hm
  have HN := Lib.hid hn
  have HP := Lib.hid h
  obtain ⟨wa, hwa⟩ : ∃ wa, wa = w.alloc (.cells #[.int .i64 0, .int .i64 0, .slice none 0 0] 40) := ⟨_, rfl⟩
  have HWA : Hid (w.alloc (.cells #[.int .i64 0, .int .i64 0, .slice none 0 0] 40) = wa) := hwa.symm
  have HTA : Hid (T3 wa w.heap.size (.int .i64 0) (.int .i64 0) (.slice none 0 0)) := by rw [hwa]; exact T3.new w _ _ _ _
  have hba : Below w.heap.size w wa := by rw [hwa]; exact balloc (Below.refl _ w) _
  have hpa := h.below hba (by omega) (by omega)
  have HCK : Hid (Calls Try.prog 19 #[.slice (some ⟨bl, 0, none⟩) 1 cl, .slice (some ⟨bg, 0, none⟩) 1 cg, .slice (some ⟨bs, 0, none⟩) 1 cs] wa fun e w' => e = .returned (.int .i64 0) ∧ Below wa.heap.size wa w') := scheck_any bl bg bs d c cl cg cs W H gr sx sy p hW hH hgr hsx hsy wa hpa
  have HBA := Lib.hid hba
  obtain ⟨hW0, hW2⟩ := hW
  obtain ⟨hH0, hH2⟩ := hH
  clear hm hn hwa hba hpa h
  go_enter Try.func9, Try.ntmps9
  go_upto_region 1 with fail
  rw [HWA.out]
  clear HWA
  go_wp2_with fail
  refine HCK.out.mono ?_
  rintro e w2 ⟨rfl, hb2⟩
  have HB2 : Hid (Below w.heap.size w w2) := bthen HBA.out hb2
  have HT2 := Lib.hid (HTA.out.below hb2)
  have hp2 := HP.out.below HB2.out (by omega) (by omega)
  have c0 := hp2.l.c0
  have c1 := hp2.l.c1
  have mk := run_makeArr (P := Try.prog) elemU8 Try.underlying27 (.int .u8 0) rfl n (by omega) (by omega)
  clear hb2 HCK HTA HBA hp2
  go_upto_region 4 with fail
  have HS : Hid (∀ W', Below w2.heap.size w2 W' → Below w2.heap.size w2 W' ∧ W'.cell? ⟨bl, 0, none⟩ = some (.int .i64 W) ∧ W'.cell? ⟨bl, 1, none⟩ = some (.int .i64 H)) := fun W' hb => ⟨hb, keepCell hb c0, keepCell hb c1⟩
  go_cut [9] from 97 to 96 (fun s9 wx => ∃ g dm cm, s9 = .pointer (some ⟨g, 0, none⟩) ∧ Hid (MkU w w.heap.size g dm cm W H wx fun _ => 0))
  case first =>
    go_region_held3 (fun W' => Below w2.heap.size w2 W' ∧ W'.cell? ⟨bl, 0, none⟩ = some (.int .i64 W) ∧ W'.cell? ⟨bl, 1, none⟩ = some (.int .i64 H))
      (first | (refine HS.out _ ?_; (first | assumption | exact (Below.refl _ w2).drew | exact balloc (Below.refl _ w2).drew _ | exact balloc (balloc (Below.refl _ w2).drew _) _)))
      (fail)
    all_goals
      go_wp2_with fail
      go_meet
      first
        | exact ⟨_, _, _, rfl, by rw [HN.out]; exact MkU.one w w2 W H HB2.out HT2.out⟩
        | exact ⟨_, _, _, rfl, by rw [HN.out]; exact MkU.two w w2 W H HB2.out HT2.out⟩
  case rest =>
    obtain ⟨g, dm, cm, rfl, HU⟩ := hcut
    obtain ⟨w4, rfl⟩ : ∃ q, q = wc := ⟨_, rfl⟩
    clear mk HS c0 c1 HT2
    go_wp2_with fail
    go_loopw [43] (fun i wr => (i = .int .i64 0 ∧ w4 = wr) ∨ (i = .int .i64 1 ∧ Hid (MkU w w.heap.size g dm cm W H wr (mskT q W (W * H))))) (fun i _ => 1 - (intOf i).toNat)
    case atStart => exact .inl ⟨rfl, rfl⟩
    case round =>
      obtain ⟨wb, rfl⟩ : ∃ wb : World, wb = wr := ⟨_, rfl⟩
      rcases hrel with ⟨rfl, hwe⟩ | ⟨rfl, hw1⟩
      · subst hwe
        have hp4 := HP.out.below HU.out.bel (by omega) (by omega)
        have gr4 := hp4.g
        have HS8 : Hid (∀ W', Below w4.heap.size w4 W' → Below w4.heap.size w4 W' ∧ W'.cell? ⟨bg, 0, none⟩ = some (.int .i64 gr)) := fun W' hb => ⟨hb, keepCell hb gr4⟩
        have HGR : Hid (∀ W', Below w4.heap.size w4 W' → Calls Try.prog 20 #[.pointer (some ⟨bl, 0, none⟩), .int .i64 gr] W' (RetBits W H (growN W H p gr) W')) := fun W' hb => grown_any bl d c W H p ⟨hW0, hW2⟩ ⟨hH0, hH2⟩ gr hgr W' (hp4.l.below hb (by omega) (by omega))
        clear hp4 gr4
        go_upto_region 8 with fail
        go_cut [11] from 97 to 96 (fun s11 wx => ∃ g1 d1 c1, s11 = .pointer (some ⟨g1, 0, none⟩) ∧ Hid (BitsAt wx g1 d1 c1 W H (growN W H p gr) ∧ Below w4.heap.size w4 wx ∧ w4.heap.size ≤ g1 ∧ w4.heap.size ≤ d1))
        case first =>
          go_region_held3 (fun W' => Below w4.heap.size w4 W' ∧ W'.cell? ⟨bg, 0, none⟩ = some (.int .i64 gr))
            (first | (refine HS8.out _ ?_; (first | assumption | exact (Below.refl _ w4).drew | exact balloc (Below.refl _ w4).drew _ | exact balloc (by assumption) _ | go_grown)))
            (first | fail | (go_simp; go_at_call 20; (with_reducible refine (HGR.out _ (And.left (by assumption))).mono ?_); intro e wx hret; obtain ⟨d1, c1, rfl, hd1, h1, h2, h3, hbx⟩ := hret; have hzx : Below w4.heap.size w4 wx := bthen (And.left (by assumption)) hbx; (try (have ha : T3 wx w4.heap.size (.int .i64 0) (.int .i64 0) (.slice none 0 0) := (T3.new w4.drew (.int .i64 0) (.int .i64 0) (.slice none 0 0) 29).below hbx; have a0 := ha.c0; have a1 := ha.c1; have a2 := ha.c2; have af := ha.fr))))
          all_goals
            go_wp2_with fail
            go_meet
            first
              | exact ⟨_, _, _, rfl, PrB.one hd1 h1 h2 hzx⟩
              | (have h1' : w4.heap.size < d1 := by
                   have h := h1
                   simp at h
                   omega
                 exact ⟨_, _, _, rfl, PrB.two hd1 h1' hzx ha⟩)
        case rest =>
          obtain ⟨g1, d1, c1, rfl, HBT⟩ := hcut
          obtain ⟨w5, rfl⟩ : ∃ q, q = wc := ⟨_, rfl⟩
          have HNE : Hid (g1 ≠ dm ∧ d1 ≠ dm) := by
            have h1 := HU.out.lt
            have h2 := HBT.out.2.2
            exact ⟨by omega, by omega⟩
          have HU5 : Hid (MkU w w.heap.size g dm cm W H w5 (mskT q W 0) ∧ BitsAt w5 g1 d1 c1 W H (growN W H p gr)) := ⟨by rw [mskT_zero]; exact HU.out.below HBT.out.2.1, HBT.out.1⟩
          have HNM : Hid (dm < w5.heap.size) := HU5.out.1.lt.2.2.2.2.2.1
          have z1 := HU5.out.1.tab.c1
          clear HU HBT HS8 HGR
          go_wp2_with fail
          go_loopw [56] (fun i wr => ∃ y : Nat, y ≤ H ∧ i = .int .i64 y ∧ Hid (MkU w w.heap.size g dm cm W H wr (mskT q W (y * W)) ∧ BitsAt wr g1 d1 c1 W H (growN W H p gr))) (fun i _ => H - (intOf i).toNat)
          case atStart => exact ⟨0, by omega, rfl, by show MkU _ _ _ _ _ _ _ _ _ ∧ _; rw [Nat.zero_mul]; exact HU5.out⟩
          case round =>
            clear HU5 z1
            obtain ⟨y, hy, rfl, HX⟩ := hrel
            obtain ⟨wy, rfl⟩ : ∃ wb : World, wb = wr := ⟨_, rfl⟩
            by_cases hly : y < H
            · have kdy : (y : Int) < (H : Int) := by omega
              have z0 := HX.out.1.tab.c0
              go_wp2_with fail
              go_loopw [61] (fun i wr => ∃ x : Nat, x ≤ W ∧ i = .int .i64 x ∧ Hid (MkU w w.heap.size g dm cm W H wr (mskT q W (y * W + x)) ∧ BitsAt wr g1 d1 c1 W H (growN W H p gr))) (fun i _ => W - (intOf i).toNat)
              case atStart => exact ⟨0, by omega, rfl, HX⟩
              case round =>
                clear HX z0
                obtain ⟨x, hx, rfl, HY⟩ := hrel
                obtain ⟨wx, rfl⟩ : ∃ wb : World, wb = wr := ⟨_, rfl⟩
                by_cases hlx : x < W
                · have kdx : (x : Int) < (W : Int) := by omega
                  have hpx := HP.out.below HY.out.1.bel (by omega) (by omega)
                  have s0 := hpx.s0
                  have s1 := hpx.s1
                  have y1 : IntKind.i64.wrap ((x : Int) - sx) = (x : Int) - sx := IntWalk.i64_in _ (by omega)
                  have y2 : IntKind.i64.wrap ((y : Int) - sy) = (y : Int) - sy := IntWalk.i64_in _ (by omega)
                  have xx : IntKind.i64.wrap ((x : Int) + 1) = (x : Int) + 1 := IntWalk.i64_in _ (by omega)
                  obtain ⟨b, hb⟩ : ∃ b, b = q x y := ⟨_, rfl⟩
                  have HIS : Hid (∀ n, Calls Try.prog 21 #[.pointer (some ⟨g1, 0, none⟩), .int .i64 ((x : Int) - sx), .int .i64 ((y : Int) - sy)] (wx.drewN n) (Quiet (.bool b) (wx.drewN n))) := fun n => by
                    have h := is_any g1 d1 c1 W H (growN W H p gr) hW2 hH2 ((x : Int) - sx) ((y : Int) - sy) _ (HY.out.2.drewN n)
                    rw [hb, HQ.out]
                    exact h
                  have HBB : Hid (q x y = b) := hb.symm
                  clear hpx hb
                  go_upto_region 15 with fail
                  go_quiet ((go_at_call 21; exact quiet_of (HIS.out _)))
                  have HY2 : Hid (MkU w w.heap.size g dm cm W H (wx.drewN nq) (mskT q W (y * W + x)) ∧ BitsAt (wx.drewN nq) g1 d1 c1 W H (growN W H p gr)) := ⟨HY.out.1.below (bdrewN (Below.refl _ _) _), HY.out.2.drewN nq⟩
                  clear HY HIS s0 s1 y1 y2
                  cases b with
                  | false =>
                    have HNX : Hid (MkU w w.heap.size g dm cm W H (wx.drewN nq) (mskT q W (y * W + (x + 1))) ∧ BitsAt (wx.drewN nq) g1 d1 c1 W H (growN W H p gr)) := ⟨by rw [← Nat.add_assoc, mskT_no hlx HBB.out]; exact HY2.out.1, HY2.out.2⟩
                    clear HY2
                    go_wp2_with fail
                    go_roundw
                    case rel => exact ⟨x + 1, by omega, by go_num, HNX⟩
                    case measure => simp [intOf]; omega
                  | true =>
                    obtain ⟨wz, hwz⟩ : ∃ wz, wz = wx.drewN nq := ⟨_, rfl⟩
                    rw [← hwz] at HY2 ⊢
                    clear hwz
                    obtain ⟨k, hk⟩ : ∃ k, k = y * W + x := ⟨_, rfl⟩
                    have hkn : k < n := by rw [hk, HN.out]; exact row_lt hly hlx
                    have hcd := HY2.out.1.dat.at' k (by rw [← HN.out]; exact hkn)
                    rw [← hk, mskT_at] at hcd
                    have hcd2 : wz.cell? ⟨dm, k, none⟩ = some (.int .u8 0) := hcd
                    have hcd3 : wz.drew.cell? ⟨dm, k, none⟩ = some (.int .u8 0) := hcd
                    have hfz : ∀ o, wz.drew.frozen? ⟨dm, o, none⟩ = false := HY2.out.1.dat.fz
                    have z0 := HY2.out.1.tab.c0
                    have z2 := HY2.out.1.tab.c2
                    rw [← HN.out] at z2
                    obtain ⟨yW, hyW⟩ : ∃ v, v = y * W := ⟨_, rfl⟩
                    have y1 : IntKind.i64.wrap ((y : Int) * (W : Int)) = (yW : Int) := by rw [hyW, ← Int.natCast_mul]; exact IntWalk.i64_in _ (by rw [← hyW]; omega)
                    have y2 : IntKind.i64.wrap ((yW : Int) + (x : Int)) = (k : Int) := by rw [hk, ← hyW, Int.natCast_add]; exact IntWalk.i64_in _ (by omega)
                    have o1 := or_one
                    have o2 := wrap_one
                    have hm1 := (HY2.out.1.put hlx hly HBB.out)
                    rw [← hk] at hm1
                    have HNX : Hid (MkU w w.heap.size g dm cm W H ((wz.setCell ⟨dm, k, none⟩ (.int .u8 1)).drew) (mskT q W (y * W + (x + 1))) ∧ BitsAt ((wz.setCell ⟨dm, k, none⟩ (.int .u8 1)).drew) g1 d1 c1 W H (growN W H p gr)) := by
                      have hO := (Only.set wz dm k (.int .u8 1)).drew
                      refine ⟨by rw [← Nat.add_assoc, ← hk]; exact hm1.below (bdrewN (Below.refl _ _) 1), ?_⟩
                      obtain ⟨a0, a1, a2, a3⟩ := HY2.out.2
                      exact ⟨(cell_ne HNE.out.1).trans a0, (cell_ne HNE.out.1).trans a1, (cell_ne HNE.out.1).trans a2, a3.heap (hO.hp d1 HNE.out.2)⟩
                    clear hm1 hk hyW hcd HY2
                    go_upto_region 16 with fail
                    refine wp_region_still_tail 14 (by kernel_rfl) (by kernel_rfl) ?_
                    simp only [List.take_succ_cons, List.take_zero, List.drop_succ_cons, List.drop_zero]
                    repeat still_step
                    refine wpStill_nil ?_
                    change wpList _ _ _ _ _ wz.drew
                    go_wp2_with fail
                    go_roundw
                    case rel => exact ⟨x + 1, by omega, by go_num, HNX⟩
                    case measure => simp [intOf]; omega
                · obtain rfl : W = x := by omega
                  have HNX : Hid (MkU w w.heap.size g dm cm W H wx (mskT q W ((y + 1) * W)) ∧ BitsAt wx g1 d1 c1 W H (growN W H p gr)) := by
                    have h := HY.out
                    rw [← Nat.succ_mul] at h
                    exact h
                  have xy : IntKind.i64.wrap ((y : Int) + 1) = (y : Int) + 1 := IntWalk.i64_in _ (by omega)
                  clear HY
                  go_wp2_with fail
                  go_roundw
                  case rel => exact ⟨y + 1, by omega, by go_num, HNX⟩
                  case measure => simp [intOf]; omega
            · obtain rfl : H = y := by omega
              have HNX : Hid (MkU w w.heap.size g dm cm W H wy (mskT q W (W * H))) := by show MkU _ _ _ _ _ _ _ _ _; rw [Nat.mul_comm W H]; exact HX.out.1
              clear HX
              go_wp2_with fail
              go_roundw
              case rel => exact .inr ⟨rfl, HNX⟩
              case measure => simp [intOf]
      · have hx := hw1.out
        clear hw1 HU
        obtain ⟨l1, l2, l3, l4, l5, l6, l7, l8, l9, l10⟩ := hx.lt
        have z0 := hx.tab.c0
        have z1 := hx.tab.c1
        have z2 := hx.tab.c2
        have r0 := hx.res.c0
        have r1 := hx.res.c1
        have r2 := hx.res.c2
        have rf := hx.res.fr
        obtain ⟨hT9, hO9⟩ := res_set (x := .int .i64 W) (y := .int .i64 H) (z := .slice (some ⟨dm, 0, none⟩) n cm) hx.res
        have HF : Hid (RetMask W H q w (.returned (.tuple #[.agg #[.int .i64 W, .int .i64 H, .slice (some ⟨dm, 0, none⟩) n cm], .int .i64 0])) (resW wb w.heap.size (.int .i64 W) (.int .i64 H) (.slice (some ⟨dm, 0, none⟩) n cm))) := by
          refine ⟨dm, cm, by rw [HN.out], FTab.heap hx.dat (hO9.hp dm l8), l5, by rw [hO9.sz]; exact l6, l10, hO9.bel hx.bel l1⟩
        rw [← HN.out] at z2
        have HT9 := Lib.hid hT9
        clear hx hT9 hO9 HN l1 l2 l3 l4 l5 l6 l7 l8 l9 l10
        repeat (first | go_values | go_skip | go_guarded | go_step | go_upon)
        obtain ⟨W9, hW9⟩ : ∃ W9, W9 = resW wb w.heap.size (.int .i64 W) (.int .i64 H) (.slice (some ⟨dm, 0, none⟩) n cm) := ⟨_, rfl⟩
        rw [← hW9] at HF HT9
        unfold resW at hW9
        rw [← hW9]
        have e0 := HT9.out.c0
        have e1 := HT9.out.c1
        have e2 := HT9.out.c2
        clear hW9
        refine bodyPost_ret (v := .tuple #[.agg #[.int .i64 W, .int .i64 H, .slice (some ⟨dm, 0, none⟩) n cm], .int .i64 0]) (by simp only [results, printRes]; go_simp) rfl ?_
        exact HF.out
end Go.Proofs.Ytcadgjhfdolejaa
