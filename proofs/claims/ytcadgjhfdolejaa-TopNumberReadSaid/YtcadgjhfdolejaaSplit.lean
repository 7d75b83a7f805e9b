/-
  The walk of camera.split. Own text.
-/
import Derived.Test.YtcadgjhfdolejaaCapt
namespace Go.Proofs.Ytcadgjhfdolejaa
open Go.RowKit
set_option linter.unusedVariables false
def lowV (t : Nat → Nat) : Nat → Nat
  | 0 => t 0
  | k + 1 => min (lowV t k) (t k)
def highV (t : Nat → Nat) : Nat → Nat
  | 0 => t 0
  | k + 1 => max (highV t k) (t k)
theorem low_bd {t : Nat → Nat} (h : ∀ i, t i < 256) : ∀ k, lowV t k < 256 ∧ highV t k < 256
  | 0 => ⟨h 0, h 0⟩
  | k + 1 => by
    obtain ⟨h1, h2⟩ := low_bd h k
    have := h k
    unfold lowV highV
    omega
/-- Places that are nearer to the darkest tone. -/
def darkP (t : Nat → Nat) (W s : Nat) : Plane := fun x y => decide (2 * t (y.toNat * W + x.toNat) < s)
def splitP (t : Nat → Nat) (W H : Nat) : Plane := cutP W H (darkP t W (lowV t (W * H) + highV t (W * H)))
theorem splitRes : Try.f28.results = #[.cell 2 29] := rfl
theorem GrB.one {w w4 wx : World} {r d1 c1 W H : Nat} {p : Plane} (hd : Dat wx d1 W H p) (hw : Below w.heap.size w w4) (hr : T3 w4 r (.int .i64 0) (.int .i64 0) (.slice none 0 0)) (hr0 : w.heap.size ≤ r) (h1 : w4.heap.size ≤ d1) (h2 : d1 < wx.heap.size) (hz : Below w4.heap.size w4 wx) (hc : strV W * H ≤ c1) :
    GnU w r wx.heap.size d1 c1 W H (wx.alloc (.cells #[.int .i64 W, .int .i64 H, .slice (some ⟨d1, 0, none⟩) (strV W * H) c1] 29)) p := by
  have t := T3.new wx (.int .i64 W) (.int .i64 H) (.slice (some ⟨d1, 0, none⟩) (strV W * H) c1) 29
  have hb := balloc (Below.refl _ wx) (.cells #[.int .i64 W, .int .i64 H, .slice (some ⟨d1, 0, none⟩) (strV W * H) c1] 29)
  have hl := hr.lt
  have hs := hz.size
  have hs2 := hw.size
  refine ⟨bthen hw (bthen hz hb), t, (hr.below hz).below hb, hd.below hb h2, hr0, ?_, ?_, ?_, ?_, ?_, ?_, ?_, ?_, hc⟩ <;> (first | omega | (simp; done) | (simp; omega))
theorem GrB.two {w w4 wx : World} {r d1 c1 W H : Nat} {p : Plane} (hd : Dat wx d1 W H p) (hw : Below w.heap.size w w4) (hr : T3 w4 r (.int .i64 0) (.int .i64 0) (.slice none 0 0)) (hr0 : w.heap.size ≤ r) (h1 : w4.heap.size < d1) (h2 : d1 < wx.heap.size) (hz : Below w4.heap.size w4 wx) (hc : strV W * H ≤ c1) (ha : T3 wx w4.heap.size (.int .i64 0) (.int .i64 0) (.slice none 0 0)) :
    GnU w r w4.heap.size d1 c1 W H (resW wx w4.heap.size (.int .i64 W) (.int .i64 H) (.slice (some ⟨d1, 0, none⟩) (strV W * H) c1)) p := by
  obtain ⟨t, o⟩ := res_set (x := .int .i64 W) (y := .int .i64 H) (z := .slice (some ⟨d1, 0, none⟩) (strV W * H) c1) ha
  have hl := hr.lt
  have hs2 := hw.size
  have hsz := o.sz
  refine ⟨o.bel (bthen hw hz) hs2, t, (hr.below hz).heap (o.hp _ (by omega)), hd.heap (o.hp _ (by omega)), hr0, ?_, ?_, ?_, ?_, ?_, ?_, ?_, ?_, hc⟩ <;> omega
set_option maxRecDepth 100000 in
set_option maxHeartbeats 8000000 in
theorem split_any (g d c W H : Nat) (t : Nat → Nat) (ht : ∀ i, t i < 256) (hW : 1 ≤ W ∧ W ≤ 1024) (hH : 1 ≤ H ∧ H ≤ 1024) (w : World) (h3 : T3 w g (.int .i64 W) (.int .i64 H) (.slice (some ⟨d, 0, none⟩) (W * H) c)) (hd : FTab encB w d (W * H) t) :
    Calls Try.prog 28 #[.pointer (some ⟨g, 0, none⟩)] w (RetBits W H (splitP t W H) w) := by
  obtain ⟨n, hn⟩ : ∃ n, n = W * H := ⟨_, rfl⟩
  have hnb : n ≤ 1024 * 1024 := by rw [hn]; exact Nat.mul_le_mul hW.2 hH.2
  have hnp : 0 < n := by rw [hn]; exact Nat.mul_pos (by omega) (by omega)
  have hdl : d < w.heap.size := hd.lt (by rw [← hn]; exact hnp)
  rw [← hn] at h3 hd
  obtain ⟨wa, hwa⟩ : ∃ wa, wa = w.alloc (.cells #[.int .i64 0, .int .i64 0, .slice none 0 0] 29) := ⟨_, rfl⟩
  have HWA : Hid (w.alloc (.cells #[.int .i64 0, .int .i64 0, .slice none 0 0] 29) = wa) := hwa.symm
  have hba : Below w.heap.size w wa := by rw [hwa]; exact balloc (Below.refl _ w) _
  have hta : T3 wa w.heap.size (.int .i64 0) (.int .i64 0) (.slice none 0 0) := by rw [hwa]; exact T3.new w _ _ _ _
  have HS3 : Hid (∀ W', Below w.heap.size w W' → T3 W' g (.int .i64 W) (.int .i64 H) (.slice (some ⟨d, 0, none⟩) n c) ∧ FTab encB W' d n t) := fun W' hb => ⟨h3.below hb, hd.below hb hdl⟩
  have HBA := Lib.hid hba
  have HTA := Lib.hid hta
  have HT := Lib.hid ht
  have HN := Lib.hid hn
  obtain ⟨m, hm⟩ : ∃ m, m = strV W * H := ⟨_, rfl⟩
  have HM : Hid (strV W * H = m) := hm.symm
  obtain ⟨hW0, hW2⟩ := hW
  obtain ⟨hH0, hH2⟩ := hH
  have c2 := (HS3.out wa hba).1.c2
  obtain ⟨b0, hb0⟩ : ∃ b, b = t 0 := ⟨_, rfl⟩
  have p0 : wa.cell? ⟨d, 0, none⟩ = some (.int .u8 (b0 : Int)) := by rw [hb0]; exact (HS3.out wa hba).2.at' 0 hnp
  have HL0 : Hid (lowV t 0 = b0 ∧ highV t 0 = b0) := by rw [hb0]; exact ⟨rfl, rfl⟩
  clear hwa hba hta hn hm hdl h3 hd ht hb0
  go_enter Try.func28, Try.ntmps28
  go_upto_region 1 with fail
  rw [HWA.out]
  clear HWA
  go_quiet (fail)
  obtain ⟨wb, hwb⟩ : ∃ wb, wb = wa.drewN nq := ⟨_, rfl⟩
  rw [← hwb]
  have HB : Hid (Below w.heap.size w wb ∧ T3 wb w.heap.size (.int .i64 0) (.int .i64 0) (.slice none 0 0)) := by rw [hwb]; exact ⟨bdrewN HBA.out nq, HTA.out.drewN nq⟩
  clear hwb HBA HTA c2 p0
  have c2 := (HS3.out wb HB.out.1).1.c2
  go_wp2_with fail
  go_loopw [27, 3, 4] (fun i l h wr => ∃ k : Nat, k ≤ n ∧ i = .int .i64 k ∧ l = .int .u8 (lowV t k : Nat) ∧ h = .int .u8 (highV t k : Nat) ∧ wb = wr) (fun i _ _ _ => n - (intOf i).toNat)
  case atStart => exact ⟨0, by omega, rfl, by rw [HL0.out.1], by rw [HL0.out.2], rfl⟩
  case round =>
    obtain ⟨k, hk, rfl, rfl, rfl, hwr⟩ := hrel
    subst hwr
    by_cases hlt : k < n
    · have kd : (k : Int) < (n : Int) := by omega
      have kk : IntKind.i64.wrap ((k : Int) + 1) = (k : Int) + 1 := IntWalk.i64_in _ (by omega)
      obtain ⟨b, hb⟩ : ∃ b, b = t k := ⟨_, rfl⟩
      have pk : wb.cell? ⟨d, k, none⟩ = some (.int .u8 (b : Int)) := by rw [hb]; exact (HS3.out wb HB.out.1).2.at' k hlt
      obtain ⟨lo, hlo⟩ : ∃ v, v = lowV t k := ⟨_, rfl⟩
      obtain ⟨hi, hhi⟩ : ∃ v, v = highV t k := ⟨_, rfl⟩
      obtain ⟨lo2, hlo2⟩ : ∃ v, v = lowV t (k + 1) := ⟨_, rfl⟩
      obtain ⟨hi2, hhi2⟩ : ∃ v, v = highV t (k + 1) := ⟨_, rfl⟩
      have e1 : lo2 = min lo b := by rw [hlo2, hlo, hb]; rfl
      have e2 : hi2 = max hi b := by rw [hhi2, hhi, hb]; rfl
      have HNX : Hid (lowV t (k + 1) = lo2 ∧ highV t (k + 1) = hi2) := ⟨hlo2.symm, hhi2.symm⟩
      have m1 : (if (b : Int) < (lo : Int) then (b : Int) else (lo : Int)) = (lo2 : Int) := by split <;> omega
      have m1' : (if b < lo then (b : Int) else (lo : Int)) = (lo2 : Int) := by split <;> omega
      have m2 : (if (hi : Int) < (b : Int) then (b : Int) else (hi : Int)) = (hi2 : Int) := by split <;> omega
      have m2' : (if hi < b then (b : Int) else (hi : Int)) = (hi2 : Int) := by split <;> omega
      rw [← hlo, ← hhi]
      clear hb hlo hhi hlo2 hhi2 e1 e2
      go_wp2_with fail
      go_roundw
      case rel => exact ⟨k + 1, by omega, by go_num, by rw [HNX.out.1], by rw [HNX.out.2], trivial⟩
      case measure => simp [intOf]; omega
    · obtain rfl : n = k := by omega
      obtain ⟨lo, hlo⟩ : ∃ v, v = lowV t n := ⟨_, rfl⟩
      obtain ⟨hi, hhi⟩ : ∃ v, v = highV t n := ⟨_, rfl⟩
      have hbl := low_bd HT.out n
      rw [← hlo, ← hhi] at hbl ⊢
      have HLH : Hid (lo = lowV t n ∧ hi = highV t n) := ⟨hlo, hhi⟩
      have hl9 : lo < 256 := hbl.1
      have hh9 : hi < 256 := hbl.2
      have z0 := (HS3.out wb HB.out.1).1.c0
      have z1 := (HS3.out wb HB.out.1).1.c1
      clear hlo hhi hbl hk hlt c2
      have HBL : Hid (∀ W', Calls Try.prog 15 #[.int .i64 W, .int .i64 H] W' (RetBits W H noneP W')) := fun W' => blank_any W H hW2 hH2 W'
      have HS8 : Hid (∀ W', Below wb.heap.size wb W' → Below wb.heap.size wb W' ∧ W'.cell? ⟨g, 0, none⟩ = some (.int .i64 W) ∧ W'.cell? ⟨g, 1, none⟩ = some (.int .i64 H)) := fun W' hb => by
        have h := (HS3.out W' (bthen HB.out.1 hb)).1
        exact ⟨hb, h.c0, h.c1⟩
      go_upto_region 7 with fail
      go_cut [7] from 81 to 80 (fun s7 wx => ∃ g1 d1 c1, s7 = .pointer (some ⟨g1, 0, none⟩) ∧ Hid (GnU w w.heap.size g1 d1 c1 W H wx noneP))
      case first =>
        go_region_held3 (fun W' => Below wb.heap.size wb W' ∧ W'.cell? ⟨g, 0, none⟩ = some (.int .i64 W) ∧ W'.cell? ⟨g, 1, none⟩ = some (.int .i64 H))
          (first | (refine HS8.out _ ?_; (first | assumption | exact (Below.refl _ wb).drew | exact balloc (Below.refl _ wb).drew _ | exact balloc (by assumption) _ | go_grown)))
          (first | fail | (go_simp; go_at_call 15; (refine (HBL.out _).mono ?_); intro e wx hret; obtain ⟨d1, c1, rfl, hd1, h1, h2, h3, hbx⟩ := hret; have hzx : Below wb.heap.size wb wx := bthen (And.left (by assumption)) hbx; (try (have ha : T3 wx wb.heap.size (.int .i64 0) (.int .i64 0) (.slice none 0 0) := (T3.new wb.drew (.int .i64 0) (.int .i64 0) (.slice none 0 0) 29).below hbx; have a0 := ha.c0; have a1 := ha.c1; have a2 := ha.c2; have af := ha.fr))))
        all_goals
          go_wp2_with fail
          go_meet
          first
            | exact ⟨_, _, _, rfl, GrB.one hd1 HB.out.1 HB.out.2 (Nat.le_refl _) h1 h2 hzx h3⟩
            | (have h1' : wb.heap.size < d1 := by
                 have h := h1
                 simp at h
                 omega
               exact ⟨_, _, _, rfl, GrB.two hd1 HB.out.1 HB.out.2 (Nat.le_refl _) h1' h2 hzx h3 ha⟩)
      case rest =>
        obtain ⟨g1, d1, c1, rfl, HU⟩ := hcut
        obtain ⟨w5, rfl⟩ : ∃ q, q = wc := ⟨_, rfl⟩
        obtain ⟨q, hq⟩ : ∃ q, q = darkP t W (lo + hi) := ⟨_, rfl⟩
        have hsp : splitP t W H = cutP W H q := by rw [hq, HLH.out.1, HLH.out.2, HN.out]; rfl
        have HSP := Lib.hid hsp
        have HQ : Hid (∀ k : Nat, q ((k % W : Nat) : Int) ((k / W : Nat) : Int) = decide (2 * t k < lo + hi)) := fun k => by
          rw [hq]
          show decide (2 * t (((k / W : Nat) : Int).toNat * W + ((k % W : Nat) : Int).toNat) < lo + hi) = _
          rw [Int.toNat_natCast, Int.toNat_natCast, Nat.mul_comm (k / W), Nat.div_add_mod]
        have HU5 : Hid (GnU w w.heap.size g1 d1 c1 W H w5 (inkP W H q 0)) := by rw [inkP_zero]; exact HU.out
        have a2 := (HS3.out w5 HU5.out.bel).1.c2
        have s1 : IntKind.i64.wrap ((lo : Int) + (hi : Int)) = (lo : Int) + (hi : Int) := IntWalk.i64_in _ (by omega)
        clear HU HBL HS8 HLH HL0 hq hsp z0 z1 HB
        go_upto_region 8 with fail
        go_wp2_with fail
        go_loopw [52] (fun i wr => ∃ k : Nat, k ≤ n ∧ i = .int .i64 k ∧ Hid (GnU w w.heap.size g1 d1 c1 W H wr (inkP W H q k))) (fun i _ => n - (intOf i).toNat)
        case atStart => exact ⟨0, by omega, rfl, HU5⟩
        case round =>
          clear HU5 a2
          obtain ⟨k, hk, rfl, HX⟩ := hrel
          obtain ⟨wb, rfl⟩ : ∃ wb : World, wb = wr := ⟨_, rfl⟩
          by_cases hlt : k < n
          · have kd : (k : Int) < (n : Int) := by omega
            obtain ⟨b, hb⟩ : ∃ b, b = t k := ⟨_, rfl⟩
            have hcd : wb.cell? ⟨d, k, none⟩ = some (.int .u8 (b : Int)) := by rw [hb]; exact (HS3.out wb HX.out.bel).2.at' k hlt
            have hb9 : b < 256 := by rw [hb]; exact HT.out k
            obtain ⟨x, hx⟩ : ∃ x, x = k % W := ⟨_, rfl⟩
            obtain ⟨y, hy⟩ : ∃ y, y = k / W := ⟨_, rfl⟩
            have hxW : x < W := by rw [hx]; exact Nat.mod_lt _ (by omega)
            have hyH : y < H := by rw [hy]; exact (Nat.div_lt_iff_lt_mul (by omega)).2 (by rw [Nat.mul_comm, ← HN.out]; exact hlt)
            have hqk := HQ.out k
            rw [← hb] at hqk
            have hno : ¬ 2 * b < lo + hi → inkP W H q (k + 1) = inkP W H q k := fun h => inkP_no (by omega) (by rw [hqk]; exact decide_eq_false h)
            have hyes : 2 * b < lo + hi → inkP W H q (k + 1) = markP (inkP W H q k) x y := fun h => by rw [inkP_yes (by omega) (by rw [← HN.out]; exact hlt) (by rw [hqk]; exact decide_eq_true h), ← hx, ← hy]
            have kx : (k : Int) % (W : Int) = (x : Int) := by rw [hx]; rfl
            have ky : (k : Int) / (W : Int) = (y : Int) := by rw [hy]; rfl
            have kx' : (k : Int).tmod (W : Int) = (x : Int) := by rw [Int.tmod_eq_emod_of_nonneg (by omega)]; exact kx
            have ky' : (k : Int).tdiv (W : Int) = (y : Int) := by rw [Int.tdiv_eq_ediv_of_nonneg (by omega)]; exact ky
            have kw : IntKind.i64.wrap (y : Int) = (y : Int) := IntWalk.i64_in _ (by omega)
            have kk : IntKind.i64.wrap ((k : Int) + 1) = (k : Int) + 1 := IntWalk.i64_in _ (by omega)
            have b1 : IntKind.i64.wrap (b : Int) = (b : Int) := IntWalk.i64_in _ (by omega)
            have b2 : IntKind.i64.wrap (2 * (b : Int)) = 2 * (b : Int) := IntWalk.i64_in _ (by omega)
            have l1 : IntKind.i64.wrap (lo : Int) = (lo : Int) := IntWalk.i64_in _ (by omega)
            have l2 : IntKind.i64.wrap (hi : Int) = (hi : Int) := IntWalk.i64_in _ (by omega)
            have nW : ¬ (W : Int) = 0 := by omega
            have nW2 : ¬ W = 0 := by omega
            have nW3 : ((W : Int) == 0) = false := by rw [beq_eq_false_iff_ne]; omega
            have HNO := Lib.hid hno
            have HYES := Lib.hid hyes
            clear hx hy hno hyes hb hqk
            by_cases hdk : 2 * b < lo + hi
            · have hdi : 2 * (b : Int) < (lo : Int) + (hi : Int) := by omega
              have HMK : Hid (Calls Try.prog 16 #[.pointer (some ⟨g1, 0, none⟩), .int .i64 x, .int .i64 y] wb.drew (RetMark g1 d1 c1 W H (markP (inkP W H q k) x y) wb.drew)) :=
                mark_any g1 d1 c1 W H _ hW2 hH2 (fun e => HX.out.lt.2.2.2.2.2.2.2.2.1 e.symm) x y hxW hyH _ (HX.out.below (bdrewN (Below.refl _ _) 1)).at'
              have z0 := (HS3.out wb HX.out.bel).1.c0
              go_upto_region 12 with fail
              refine wp_region_still_tail 12 (by kernel_rfl) (by kernel_rfl) ?_
              simp only [List.take_succ_cons, List.take_zero, List.drop_succ_cons, List.drop_zero]
              repeat still_step
              refine wpStill_nil ?_
              change wpList _ _ _ _ _ wb.drew
              go_wp2_with fail
              refine HMK.out.mono ?_
              rintro e w8 ⟨rfl, hb8, ho8⟩
              have HNX : Hid (GnU w w.heap.size g1 d1 c1 W H w8 (inkP W H q (k + 1))) := by
                rw [HYES.out hdk]; exact (HX.out.below (bdrewN (Below.refl _ _) 1)).mark hb8 ho8
              clear HX HMK hb8 ho8 z0 hcd
              go_wp2_with fail
              go_roundw
              case rel => exact ⟨k + 1, by omega, by go_num, HNX⟩
              case measure => simp [intOf]; omega
            · have hdi : ¬ 2 * (b : Int) < (lo : Int) + (hi : Int) := by omega
              have HNX : Hid (GnU w w.heap.size g1 d1 c1 W H wb (inkP W H q (k + 1))) := by rw [HNO.out hdk]; exact HX.out
              clear HX
              go_wp2_with fail
              go_roundw
              case rel => exact ⟨k + 1, by omega, by go_num, HNX⟩
              case measure => simp [intOf]; omega
          · obtain rfl : n = k := by omega
            have hx := HX.out
            obtain ⟨l1, l2, l3, l4, l5, l6, l7, l8, l9, l10⟩ := hx.lt
            have z0 := hx.tab.c0
            have z1 := hx.tab.c1
            have z2 := hx.tab.c2
            have r0 := hx.res.c0
            have r1 := hx.res.c1
            have r2 := hx.res.c2
            have rf := hx.res.fr
            obtain ⟨hT9, hO9⟩ := res_set (x := .int .i64 W) (y := .int .i64 H) (z := .slice (some ⟨d1, 0, none⟩) m c1) hx.res
            have HF : Hid (RetBits W H (splitP t W H) w (.returned (.agg #[.int .i64 W, .int .i64 H, .slice (some ⟨d1, 0, none⟩) m c1])) (resW wb w.heap.size (.int .i64 W) (.int .i64 H) (.slice (some ⟨d1, 0, none⟩) m c1))) := by
              rw [HSP.out, ← inkP_all, ← HN.out]
              exact ⟨d1, c1, by rw [HM.out], hx.dat.heap (hO9.hp d1 l8), l5, by rw [hO9.sz]; exact l6, l10, hO9.bel hx.bel l1⟩
            rw [HM.out] at z2
            have HT9 := Lib.hid hT9
            clear hx HX hT9 hO9 HM hk hlt l1 l2 l3 l4 l5 l6 l7 l8 l9 l10 HN
            repeat (first | go_values | go_skip | go_guarded | go_step | go_upon)
            obtain ⟨W9, hW9⟩ : ∃ W9, W9 = resW wb w.heap.size (.int .i64 W) (.int .i64 H) (.slice (some ⟨d1, 0, none⟩) m c1) := ⟨_, rfl⟩
            rw [← hW9] at HF HT9
            unfold resW at hW9
            rw [← hW9]
            have e0 := HT9.out.c0
            have e1 := HT9.out.c1
            have e2 := HT9.out.c2
            clear hW9
            refine bodyPost_ret (v := .agg #[.int .i64 W, .int .i64 H, .slice (some ⟨d1, 0, none⟩) m c1]) (by simp only [results, splitRes]; go_simp) rfl ?_
            exact HF.out
end Go.Proofs.Ytcadgjhfdolejaa
