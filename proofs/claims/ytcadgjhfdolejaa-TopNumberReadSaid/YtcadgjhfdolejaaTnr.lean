/-
  The walk of TopNumberRead. Printed by gen_tnr.py. Own text.
-/
import Derived.Test.YtcadgjhfdolejaaTnrV
namespace Go.Proofs.Ytcadgjhfdolejaa
open Go.RowKit
set_option linter.unusedVariables false
theorem strB_app (a b : List UInt8) : strB a ++ strB b = strB (a ++ b) := by
  apply ByteArray.ext
  simp [strB, ByteArray.data_append]
set_option maxRecDepth 100000 in
set_option maxHeartbeats 8000000 in
theorem tnr_any (ds : List Int) (od : Option Addr) (cd : Nat) (sc gr a0 a1 a2 a3 a4 a5 a6 : Int) (ns : List Int) (on : Option Addr) (cn : Nat) (w : World)
    (hdl : ds.length ≤ cd) (hcd : cd ≤ maxLen) (hd : Flat w 1 encInt od ds) (hd64 : ∀ x ∈ ds, i64ok x) (hnl : ns.length ≤ cn) (hcn : cn ≤ maxLen) (hn : Flat w 1 encInt on ns) (hn64 : ∀ x ∈ ns, i64ok x)
    (hsc : i64ok sc) (hgr : i64ok gr) (h0 : i64ok a0) (h1 : i64ok a1) (h2 : i64ok a2) (h3 : i64ok a3) (h4 : i64ok a4) (h5 : i64ok a5) (h6 : i64ok a6) :
    Calls Try.prog 3 #[.slice od ds.length cd, .int .i64 sc, .int .i64 gr, .agg #[.int .i64 a0, .int .i64 a1, .int .i64 a2, .int .i64 a3, .int .i64 a4, .int .i64 a5, .int .i64 a6, .slice on ns.length cn]] w (RetYes w) := by
  obtain ⟨nd, hnd⟩ : ∃ n, n = ds.length := ⟨_, rfl⟩
  obtain ⟨nn, hnn⟩ : ∃ n, n = ns.length := ⟨_, rfl⟩
  rw [← hnd] at hdl ⊢
  rw [← hnn] at hnl ⊢
  obtain ⟨W1, hW1⟩ : ∃ W1, W1 = w.alloc (.cells #[.int .i64 a0, .int .i64 a1, .int .i64 a2, .int .i64 a3, .int .i64 a4, .int .i64 a5, .int .i64 a6, .slice on nn cn] 24) := ⟨_, rfl⟩
  have HW1 : Hid (w.alloc (.cells #[.int .i64 a0, .int .i64 a1, .int .i64 a2, .int .i64 a3, .int .i64 a4, .int .i64 a5, .int .i64 a6, .slice on nn cn] 24) = W1) := hW1.symm
  have hb1 : Below w.heap.size w W1 := by rw [hW1]; exact balloc (Below.refl _ _) _
  have ht1 : FTab (fun v : Value => v) W1 w.heap.size 8 (rawF a0 a1 a2 a3 a4 a5 a6 (.slice on nn cn)) := by rw [hW1]; exact T8.raw w a0 a1 a2 a3 a4 a5 a6 _ _
  have HDS : Hid (∀ k (h : k < ds.length), ∃ b off, od = some ⟨b, off, none⟩ ∧ (∀ W, Below w.heap.size w W → W.cell? ⟨b, off + k, none⟩ = some (.int .i64 ds[k])) ∧ i64ok ds[k]) := fun k h => by
    obtain ⟨b, off, e, hc⟩ := hd.int h
    exact ⟨b, off, e, fun W hb => keepCell hb hc, hd64 _ (List.getElem_mem h)⟩
  have HNS : Hid (∀ k (h : k < ns.length), ∃ b off, on = some ⟨b, off, none⟩ ∧ (∀ W, Below w.heap.size w W → W.cell? ⟨b, off + k, none⟩ = some (.int .i64 ns[k])) ∧ i64ok ns[k]) := fun k h => by
    obtain ⟨b, off, e, hc⟩ := hn.int h
    exact ⟨b, off, e, fun W hb => keepCell hb hc, hn64 _ (List.getElem_mem h)⟩
  have HB1 := Lib.hid hb1
  have HT1 := Lib.hid ht1
  have HND := Lib.hid hnd
  have HNN := Lib.hid hnn
  have HCO := Lib.hid (codes_any W1)
  obtain ⟨md, hmd⟩ : ∃ m, m = min nd 6 := ⟨_, rfl⟩
  have hmd6 : md ≤ nd ∧ md ≤ 6 := by omega
  have m1 : (if (6 : Int) < (nd : Int) then (6 : Int) else (nd : Int)) = (md : Int) := by split <;> omega
  have m1' : (if 6 < nd then (6 : Int) else (nd : Int)) = (md : Int) := by split <;> omega
  have m2 : (if (nd : Int) < 6 then (nd : Int) else (6 : Int)) = (md : Int) := by split <;> omega
  have m2' : (if nd < 6 then (nd : Int) else (6 : Int)) = (md : Int) := by split <;> omega
  have HMD := Lib.hid hmd
  have hmdc : md ≤ cd := by omega
  have HCD : Hid (cd ≤ maxLen ∧ nd ≤ cd ∧ cn ≤ maxLen ∧ nn ≤ cn) := ⟨hcd, hdl, hcn, hnl⟩
  have HSC : Hid (i64ok sc ∧ i64ok gr) := ⟨hsc, hgr⟩
  have HA : Hid (i64ok a0 ∧ i64ok a1 ∧ i64ok a2 ∧ i64ok a3 ∧ i64ok a4 ∧ i64ok a5 ∧ i64ok a6) := ⟨h0, h1, h2, h3, h4, h5, h6⟩
  unfold maxLen at hcd hcn
  clear hW1 hb1 ht1 hd hd64 hn hn64 hnd hnn hmd hsc hgr h0 h1 h2 h3 h4 h5 h6
  go_enter Try.func3, Try.ntmps3
  go_upto_region 1 with fail
  rw [HW1.out]
  clear HW1
  go_wp2_with fail
  refine HCO.out.mono ?_
  rintro e w2 ⟨rfl, hb2⟩
  have HB2 := Lib.hid hb2
  clear HCO hb2
  go_wp2_with fail
  go_loopw [36, 9] (fun i s wr => ∃ k : Nat, ∃ T : ByteArray, k ≤ md ∧ i = .int .i64 k ∧ s = .string T ∧ Hid (T = strB (prefV ds k) ∧ T.size = k ∧ Below w.heap.size w wr ∧ Below W1.heap.size W1 wr)) (fun i _ _ => md - (intOf i).toNat)
  case atStart => exact ⟨0, _, by omega, rfl, rfl, rfl, rfl, bthen HB1.out HB2.out, HB2.out⟩
  case round =>
    obtain ⟨k, T, hk, rfl, rfl, HX⟩ := hrel
    obtain ⟨wb, rfl⟩ : ∃ wb : World, wb = wr := ⟨_, rfl⟩
    by_cases hlt : k < md
    · have kd : (k : Int) < (md : Int) := by omega
      have kk : IntKind.i64.wrap ((k : Int) + 1) = (k : Int) + 1 := IntWalk.i64_in _ (by omega)
      have hkl : k < ds.length := by have := HND.out; omega
      obtain ⟨b, off, rfl, hcell, hx64⟩ := HDS.out k hkl
      obtain ⟨x, hx⟩ : ∃ x, x = ds[k] := ⟨_, rfl⟩
      rw [← hx] at hcell hx64
      have hc := hcell wb HX.out.2.2.1
      have HSM := Lib.hid (smod_any x 10 (by omega) (by omega) hx64 wb)
      obtain ⟨c, hcx⟩ : ∃ c, c = digC x := ⟨_, rfl⟩
      have hcn := digC_nat x
      rw [← hcx] at hcn
      obtain ⟨cv, hcv⟩ : ∃ v : Int, v = (c.toNat : Int) := ⟨_, rfl⟩
      have z1 : IntKind.i64.wrap (48 + x % 10) = cv := by rw [hcv, hcn]; exact IntWalk.i64_in _ (by omega)
      have z2 : IntKind.u8.wrap cv = cv := by rw [hcv]; exact u8_wrap (UInt8.toNat_lt c)
      have HFL : Hid (Flat (wb.alloc (.cells #[.int .u8 cv] 5)) 1 encC (some ⟨wb.heap.size, 0, none⟩) [c]) := by
        have e := Flat.litN wb 1 encC [c] 5 (fun _ => rfl)
        rw [hcv]
        exact e
      have hcv2 : (convert 27 9 (.slice (some ⟨wb.heap.size, 0, none⟩) 1 1)).run Try.prog (wb.alloc (.cells #[.int .u8 cv] 5)) = .ok (.string (strB [c])) (wb.alloc (.cells #[.int .u8 cv] 5)) := conv_flat (c := 1) HFL.out
      have hT : T.size + (strB [c]).size ≤ 1000 := by have := HX.out.2.1; have e : (strB [c]).size = 1 := rfl; omega
      have HNX : Hid (T ++ strB [c] = strB (prefV ds (k + 1)) ∧ (T ++ strB [c]).size = k + 1 ∧ Below w.heap.size w (wb.alloc (.cells #[.int .u8 cv] 5)) ∧ Below W1.heap.size W1 (wb.alloc (.cells #[.int .u8 cv] 5))) := by
        refine ⟨?_, ?_, balloc HX.out.2.2.1 _, balloc HX.out.2.2.2 _⟩
        · rw [HX.out.1, prefV_succ hkl, hcx, hx]
          exact strB_app _ _
        · rw [ByteArray.size_append, HX.out.2.1]; rfl
      obtain ⟨S1, hS1⟩ : ∃ S1, S1 = strB [c] := ⟨_, rfl⟩
      rw [← hS1] at hcv2 hT HNX
      clear hcell hx64 hx hcx hcn hcv hS1 HFL
      go_wp2_with fail
      refine HSM.out.mono ?_
      rintro e w3 ⟨rfl, rfl⟩
      clear HSM
      go_wp2_with fail
      go_roundw
      case rel => exact ⟨k + 1, T ++ S1, by omega, by go_num, rfl, HNX⟩
      case measure => simp [intOf]; omega
    · obtain rfl : md = k := by omega
      have HTX : Hid (T = strB (prefV ds 6) ∧ T.size = md) := by
        refine ⟨?_, HX.out.2.1⟩
        rw [HX.out.1]
        unfold prefV
        congr 1
        have e1 := HMD.out
        have e2 := HND.out
        by_cases h : nd ≤ 6
        · rw [List.take_of_length_le (by omega), List.take_of_length_le (by omega)]
        · rw [show md = 6 by omega]
      have HB3 : Hid (Below w.heap.size w wb ∧ Below W1.heap.size W1 wb) := HX.out.2.2
      obtain ⟨l, hl⟩ : ∃ l, l = numL ds := ⟨_, rfl⟩
      have HL := Lib.hid hl
      obtain ⟨S, hS⟩ : ∃ S, S = strB l := ⟨_, rfl⟩
      have HS := Lib.hid hS
      clear HX hl hS hk hlt m1 m1' m2 m2'
      obtain ⟨q, hq⟩ : ∃ q, q = (T.toList == []) := ⟨_, rfl⟩
      have HQ : Hid (S = if q = true then ⟨#[55]⟩ else T) := by
        show _ = _
        have e := HTX.out.1
        have e2 := HTX.out.2
        rw [HS.out, HL.out]
        unfold numL
        by_cases hp : prefV ds 6 = []
        · rw [if_pos hp, if_pos (by rw [hq, e, hp]; decide +kernel)]
          rfl
        · have q1 : q = false := by
            rw [hq, beq_eq_false_iff_ne, e]
            exact fun h => hp (by simpa [strB] using h)
          rw [if_neg hp, q1, e]
          rfl
      have q2 : (T.toList == []) = q := hq.symm
      clear hq HTX
      go_upto_if 50 with fail
      go_cut [9] from 49 to 50 (fun s9 wx => s9 = .string S ∧ wx = wb)
      case first =>
        cases q with
        | true =>
          go_wp2_with fail
          go_meet
          exact ⟨by rw [HQ.out]; rfl, rfl⟩
        | false =>
          go_wp2_with fail
          go_meet
          exact ⟨by rw [HQ.out]; rfl, rfl⟩
      case rest =>
        obtain ⟨rfl, hwx⟩ := hcut
        rw [hwx]
        clear hwx
        clear HQ q2
        have hld : DigL l := by rw [HL.out]; exact numL_dig ds
        have hll : 1 ≤ l.length ∧ l.length ≤ 6 := by rw [HL.out]; exact numL_len ds
        obtain ⟨hs64, hg64⟩ := HSC.out
        obtain ⟨u, hu⟩ : ∃ u : Nat, u = (3 + sc % 2).toNat := ⟨_, rfl⟩
        obtain ⟨g, hg⟩ : ∃ g : Nat, g = (gr % 2).toNat := ⟨_, rfl⟩
        have hu4 : 3 ≤ u ∧ u ≤ 4 := by omega
        have hg1 : g ≤ 1 := by omega
        have z1 : IntKind.i64.wrap (3 + sc % 2) = (u : Int) := by rw [show (u : Int) = 3 + sc % 2 by omega]; exact IntWalk.i64_in _ (by omega)
        have HSM1 := Lib.hid (smod_any sc 2 (by omega) (by omega) hs64 wb)
        have HSM2 : Hid (Calls Try.prog 5 #[.int .i64 gr, .int .i64 2] wb (fun e w' => e = .returned (.int .i64 (g : Int)) ∧ w' = wb)) := by
          have e := smod_any gr 2 (by omega) (by omega) hg64 wb
          rw [show gr % 2 = (g : Int) by omega] at e
          exact e
        obtain ⟨N, hN⟩ : ∃ N, N = (widV l).length := ⟨_, rfl⟩
        have hwb := wide_bd hld hll.1 hll.2 hu4.2 (by omega)
        rw [← hN] at hwb
        obtain ⟨Wn, hWn⟩ : ∃ Wn, posV (fV l) u N = Wn := ⟨_, rfl⟩
        rw [hWn] at hwb
        obtain ⟨h4, hh4⟩ : ∃ h, h = 4 := ⟨_, rfl⟩
        obtain ⟨P0, hP0⟩ : ∃ P0, P0 = barP (fV l) u N 4 Wn := ⟨_, rfl⟩
        have HBI : Hid (∀ W', Calls Try.prog 6 #[.string S, .int .i64 u, .int .i64 4] W' (RetBits0 Wn h4 P0 W')) := fun W' => by
          rw [HS.out, hP0, hh4]
          exact lbits_any l hld hll.1 (by omega) u 4 N Wn (by omega) (by omega) (fV l) hN.symm (by omega) (by omega) (fun k hk => (fV_eq hld (by omega)).symm) (fun k hk => by
            have e := fV_eq hld (k := k) (by omega)
            have e2 := wAt_bd l hld k (by omega)
            omega) hWn (by omega) W'
        have hzx : ∀ y, y < 4 → ∃ zs, Runs (rowP P0 y) Wn 0 zs := fun y hy => runs_exist _ Wn Wn 0 (by omega)
        obtain ⟨z, hz⟩ : ∃ z : Nat → List (Nat × Nat), ∀ y, y < 4 → Runs (rowP P0 y) Wn 0 (z y) := by
          refine ⟨fun y => if h : y < 4 then (hzx y h).choose else [], fun y hy => ?_⟩
          show Runs _ _ _ (if h : y < 4 then (hzx y h).choose else [])
          rw [dif_pos hy]
          exact (hzx y hy).choose_spec
        obtain ⟨rs, hrs⟩ : ∃ rs, rs = rowsTo z 4 := ⟨_, rfl⟩
        have HRU : Hid (∀ W' d c, Dat W' d Wn h4 P0 → Calls Try.prog 7 #[.agg #[.int .i64 Wn, .int .i64 h4, .slice (some ⟨d, 0, none⟩) (strV Wn * h4) c]] W' (RetRuns rs W')) := fun W' d c hd => by
          rw [hrs]
          rw [hh4] at hd ⊢
          exact runs_any d c Wn 4 P0 (by omega) (by omega) z hz W' hd
        have hrl : rs.length ≤ 4096 := by
          rw [hrs]
          have e := rowsTo_len z 1024 4 (fun y hy => by have := (hz y hy).length; omega)
          omega
        have hr0 : 0 < rs.length := by
          have hf := ((hz 0 (by omega)).facts).2.2 0 (Nat.le_refl _) (by omega)
          have hon : rowP P0 0 0 = true := by
            rw [hP0]
            show barP (fV l) u N 4 Wn 0 0 = true
            unfold barP
            rw [Bool.and_eq_true, decide_eq_true_eq, barB_on]
            refine ⟨by omega, 0, by omega, rfl, ?_, ?_⟩
            · show (0 : Int) + ((0 : Nat) : Int) - 0 ≤ 0; omega
            · have e : posV (fV l) u (0 + 1) = 0 + fV l 0 * u := rfl
              have e2 := fV_eq hld (k := 0) (by omega)
              have e3 := wAt_bd l hld 0 (by omega)
              have e4 : 1 * 3 ≤ fV l 0 * u := Nat.mul_le_mul (by omega) (by omega)
              rw [e]; omega
          obtain ⟨q, hq, -⟩ := hf.1 hon
          rw [hrs]
          exact List.length_pos_iff.2 (List.ne_nil_of_mem ((rowsTo_mem z 4 (0, q)).2 ⟨by show 0 < 4; omega, hq⟩))
        have HPL : Hid (DigL l ∧ (1 ≤ l.length ∧ l.length ≤ 6) ∧ N = (widV l).length ∧ posV (fV l) u N = Wn ∧ P0 = barP (fV l) u N 4 Wn ∧ (∀ y, y < 4 → Runs (rowP P0 y) Wn 0 (z y)) ∧ rs = rowsTo z 4) := ⟨hld, hll, hN, hWn, hP0, hz, hrs⟩
        have HH4 := Lib.hid hh4
        have hWn2 : 1 ≤ Wn ∧ Wn ≤ 316 := by omega
        clear hld hll hs64 hg64 hu hg hN hwb hWn hP0 hzx hz hrs hh4
        go_wp2_with fail
        refine HSM1.out.mono ?_
        rintro e w5 ⟨rfl, rfl⟩
        clear HSM1
        go_wp2_with fail
        refine HSM2.out.mono ?_
        rintro e w6 ⟨rfl, rfl⟩
        clear HSM2 z1
        go_wp2_with fail
        refine (HBI.out _).mono ?_
        rintro e w7 ⟨d7, c7, rfl, hd7, k1, k2, k3, hb7⟩
        clear HBI
        have hds : d7 < w7.heap.size := k2
        obtain ⟨W8, hW8⟩ : ∃ W8, W8 = w7.alloc (.cells #[.int .i64 Wn, .int .i64 h4, .slice (some ⟨d7, 0, none⟩) (strV Wn * h4) c7] 29) := ⟨_, rfl⟩
        have HW8 : Hid (w7.alloc (.cells #[.int .i64 Wn, .int .i64 h4, .slice (some ⟨d7, 0, none⟩) (strV Wn * h4) c7] 29) = W8) := hW8.symm
        have hb8 : Below w7.heap.size w7 W8 := by rw [hW8]; exact balloc (Below.refl _ _) _
        have ht8 : T3 W8 w7.heap.size (.int .i64 Wn) (.int .i64 h4) (.slice (some ⟨d7, 0, none⟩) (strV Wn * h4) c7) := by rw [hW8]; exact T3.new w7 _ _ _ _
        obtain ⟨gb, hgb⟩ : ∃ g, g = w7.heap.size := ⟨_, rfl⟩
        have HG : Hid (w7.heap.size = gb) := hgb.symm
        rw [← hgb] at ht8
        have c0 := ht8.c0
        have c1 := ht8.c1
        have c2 := ht8.c2
        have hba := bthen HB3.out.1 (bthen hb7 hb8)
        have hbb := bthen HB3.out.2 (bthen hb7 hb8)
        have HB8 : Hid (Below w.heap.size w W8 ∧ Below W1.heap.size W1 W8 ∧ W1.heap.size ≤ gb ∧ gb < W8.heap.size) := ⟨hba, hbb, by rw [hgb]; have h1 := HB3.out.2.size; have h2 := hb7.size; omega, ht8.lt⟩
        have HT8 := Lib.hid ht8
        have HR8 := Lib.hid (HRU.out W8 d7 c7 (hd7.below hb8 hds))
        obtain ⟨m7, hm7⟩ : ∃ m, m = strV Wn * h4 := ⟨_, rfl⟩
        rw [← hm7] at HW8 HR8 c2 HT8 ⊢
        clear hW8 hb8 ht8 hgb hba hbb hd7 k1 k2 k3 hb7 hds HRU hm7 HB3
        dsimp only
        go_upto_region 13 with fail
        rw [HW8.out, HG.out]
        clear HW8 HG
        go_wp2_with fail
        refine HR8.out.mono ?_
        rintro e w9 ⟨v9, rfl, ho9, hb9⟩
        obtain ⟨gr9, c9, rfl, hc9, hg9, hl9, hrt⟩ := RunT.own ho9 (List.length_pos_iff.1 hr0)
        have HT9 : Hid (T3 w9 gb (.int .i64 Wn) (.int .i64 h4) (.slice (some ⟨d7, 0, none⟩) m7 c7)) := HT8.out.below hb9
        have HB9 : Hid (Below w.heap.size w w9 ∧ Below W1.heap.size W1 w9 ∧ W1.heap.size ≤ gb ∧ gb < gr9 ∧ gr9 < w9.heap.size) := ⟨bthen HB8.out.1 hb9, bthen HB8.out.2.1 hb9, HB8.out.2.2.1, by have := HB8.out.2.2.2; omega, hl9⟩
        have HRT := Lib.hid hrt
        obtain ⟨nr, hnr⟩ : ∃ n, n = rs.length := ⟨_, rfl⟩
        have HNR := Lib.hid hnr
        rw [← hnr] at hrl hr0 hc9 ⊢
        clear HT8 HR8 c0 c1 c2 HB8 ho9 hb9 hg9 hl9 hrt hnr
        go_wp2_with fail
        go_loopw [69] (fun i wr => ∃ k : Nat, k ≤ nr ∧ i = .int .i64 k ∧ Hid (RunT wr gr9 rs k ∧ T3 wr gb (.int .i64 Wn) (.int .i64 h4) (.slice (some ⟨d7, 0, none⟩) m7 c7) ∧ Below w.heap.size w wr ∧ Below W1.heap.size W1 wr ∧ gr9 < wr.heap.size)) (fun i _ => nr - (intOf i).toNat)
        case atStart => exact ⟨0, by omega, rfl, HRT.out, HT9.out, HB9.out.1, HB9.out.2.1, HB9.out.2.2.2.2⟩
        case round =>
          clear HRT
          obtain ⟨k, hk, rfl, HX⟩ := hrel
          obtain ⟨wb, rfl⟩ : ∃ wb : World, wb = wr := ⟨_, rfl⟩
          by_cases hlt : k < nr
          · have kd : (k : Int) < (nr : Int) := by omega
            have kk : IntKind.i64.wrap ((k : Int) + 1) = (k : Int) + 1 := IntWalk.i64_in _ (by omega)
            have k0 : (0 : Int) ≤ (k : Int) := by omega
            have hkl : k < rs.length := by have := HNR.out; omega
            have hcs := HX.out.1.cells hkl
            rw [(runC_at hkl).1] at hcs
            have hnx := HX.out.1.next hkl
            have hfz := HX.out.1.fz
            have hbd : rs[k].1 < 4 ∧ rs[k].2.1 ≤ 1024 ∧ rs[k].2.2 ≤ 1024 := by
              obtain ⟨-, -, -, -, -, hz, hrs⟩ := HPL.out
              have hm : rs[k] ∈ rowsTo z 4 := by rw [← hrs]; exact List.getElem_mem hkl
              obtain ⟨m1, m2⟩ := (rowsTo_mem z 4 _).1 hm
              have := ((hz _ m1).facts).1 _ m2
              omega
            generalize rs[k] = q at hcs hnx hbd
            obtain ⟨qy, qa, qb⟩ := q
            simp only at hcs hnx hbd
            obtain ⟨r0, r1, r2⟩ := hcs
            have x0 : IntKind.i64.wrap ((qy : Int) + 3) = ((qy + 3 : Nat) : Int) := by rw [Int.natCast_add]; exact IntWalk.i64_in _ (by omega)
            have x1 : IntKind.i64.wrap ((qa : Int) + 3) = ((qa + 3 : Nat) : Int) := by rw [Int.natCast_add]; exact IntWalk.i64_in _ (by omega)
            have x2 : IntKind.i64.wrap ((qb : Int) + 3) = ((qb + 3 : Nat) : Int) := by rw [Int.natCast_add]; exact IntWalk.i64_in _ (by omega)
            obtain ⟨py, hpy⟩ : ∃ v, v = qy + 3 := ⟨_, rfl⟩
            obtain ⟨pa, hpa⟩ : ∃ v, v = qa + 3 := ⟨_, rfl⟩
            obtain ⟨pb, hpb⟩ : ∃ v, v = qb + 3 := ⟨_, rfl⟩
            rw [← hpy] at x0 hnx
            rw [← hpa] at x1 hnx
            rw [← hpb] at x2 hnx
            have hne : gb ≠ gr9 := by have := HB9.out.2.2.2.1; omega
            have hwl := HB9.out.2.2.1
            have hww := HB9.out.2.2.2.1
            have hsz : Below W1.heap.size W1 wb := HX.out.2.2.2.1
            have hw1 : w.heap.size ≤ W1.heap.size := HB1.out.size
            have ho := ((Only.set wb gr9 (k * 3) (.int .i64 (py : Nat))).trans (Only.set _ gr9 (k * 3 + 1) (.int .i64 (pa : Nat)))).trans (Only.set _ gr9 (k * 3 + 2) (.int .i64 (pb : Nat)))
            have HNX : Hid (RunT (((wb.setCell ⟨gr9, k * 3, none⟩ (.int .i64 (py : Nat))).setCell ⟨gr9, k * 3 + 1, none⟩ (.int .i64 (pa : Nat))).setCell ⟨gr9, k * 3 + 2, none⟩ (.int .i64 (pb : Nat))).drew gr9 rs (k + 1) ∧ T3 (((wb.setCell ⟨gr9, k * 3, none⟩ (.int .i64 (py : Nat))).setCell ⟨gr9, k * 3 + 1, none⟩ (.int .i64 (pa : Nat))).setCell ⟨gr9, k * 3 + 2, none⟩ (.int .i64 (pb : Nat))).drew gb (.int .i64 Wn) (.int .i64 h4) (.slice (some ⟨d7, 0, none⟩) m7 c7) ∧ Below w.heap.size w (((wb.setCell ⟨gr9, k * 3, none⟩ (.int .i64 (py : Nat))).setCell ⟨gr9, k * 3 + 1, none⟩ (.int .i64 (pa : Nat))).setCell ⟨gr9, k * 3 + 2, none⟩ (.int .i64 (pb : Nat))).drew ∧ Below W1.heap.size W1 (((wb.setCell ⟨gr9, k * 3, none⟩ (.int .i64 (py : Nat))).setCell ⟨gr9, k * 3 + 1, none⟩ (.int .i64 (pa : Nat))).setCell ⟨gr9, k * 3 + 2, none⟩ (.int .i64 (pb : Nat))).drew ∧ gr9 < (((wb.setCell ⟨gr9, k * 3, none⟩ (.int .i64 (py : Nat))).setCell ⟨gr9, k * 3 + 1, none⟩ (.int .i64 (pa : Nat))).setCell ⟨gr9, k * 3 + 2, none⟩ (.int .i64 (pb : Nat))).drew.heap.size) :=
              ⟨hnx.drew, (HX.out.2.1.heap (ho.hp gb hne)).drew, (ho.bel HX.out.2.2.1 (by omega)).drew, (ho.bel hsz (by omega)).drew, by show gr9 < (World.setCell _ _ _).heap.size; rw [ho.sz]; exact HX.out.2.2.2.2⟩
            clear hkl hnx hbd hpy hpa hpb hne hwl hww hsz hw1 ho HX
            go_upto_region 17 with fail
            clear HDS HNS HB1 HT1 HND HNN HMD HCD HSC HA HB2 HL HS HPL HH4 HNR HT9 HB9
            go_region
            go_wp2_with fail
            go_roundw
            case rel => exact ⟨k + 1, by omega, by go_num, HNX⟩
            case measure => simp [intOf]; omega
          · obtain rfl : nr = k := by omega
            have hWn6 : 1 ≤ Wn + 6 ∧ Wn + 6 ≤ 1024 := by omega
            have y1 : IntKind.i64.wrap ((Wn : Int) + 6) = ((Wn + 6 : Nat) : Int) := by rw [Int.natCast_add]; exact IntWalk.i64_in _ (by omega)
            obtain ⟨W6, hW6⟩ : ∃ v, v = Wn + 6 := ⟨_, rfl⟩
            obtain ⟨h10, hh10⟩ : ∃ h, h = 10 := ⟨_, rfl⟩
            obtain ⟨Q1, hQ1⟩ : ∃ Q, Q = runsP (rs.map sh3) := ⟨_, rfl⟩
            obtain ⟨Q2, hQ2⟩ : ∃ Q, Q = shiftP (growN W6 h10 Q1 g) 1 (-1) := ⟨_, rfl⟩
            obtain ⟨Q3, hQ3⟩ : ∃ Q, Q = cutP W6 h10 Q2 := ⟨_, rfl⟩
            have HQ3 : Hid (W6 = Wn + 6 ∧ h10 = 10 ∧ Q3 = cutP (Wn + 6) 10 (shiftP (growN (Wn + 6) 10 (runsP ((rowsTo z 4).map sh3)) g) 1 (-1))) := by
              refine ⟨hW6, hh10, ?_⟩
              rw [hQ3, hQ2, hQ1, hW6, hh10, HPL.out.2.2.2.2.2.2]
            have HFR : Hid (∀ W', Flat W' 3 encRun (some ⟨gr9, 0, none⟩) (rs.map sh3) → Calls Try.prog 8 #[.int .i64 W6, .int .i64 10, .slice (some ⟨gr9, 0, none⟩) nr c9] W' (RetBits0 W6 h10 Q1 W')) := fun W' hf => by
              obtain ⟨-, -, -, -, -, hz, hrs⟩ := HPL.out
              have e := fruns_any W6 10 (by omega) (by omega) (rs.map sh3) (by rw [hrs, hW6]; exact moved_ok hz (by omega) (by omega)) (by rw [List.length_map, ← HNR.out]; omega) (some ⟨gr9, 0, none⟩) c9 W' hf
              rw [List.length_map, ← HNR.out, ← hQ1] at e
              rw [hh10]
              exact e
            have HPR : Hid (∀ W' bl bg bs d c, PrA W' bl bg bs d c W6 h10 g 1 (-1) Q1 → Calls Try.prog 9 #[.slice (some ⟨bl, 0, none⟩) 1 1, .slice (some ⟨bg, 0, none⟩) 1 1, .slice (some ⟨bs, 0, none⟩) 1 1] W' (RetMask W6 h10 Q2 W')) := fun W' bl bg bs d c hp => by
              rw [hQ2]
              exact print_any bl bg bs d c 1 1 1 W6 h10 g 1 (-1) Q1 (by omega) (by omega) (by omega) (by omega) (by omega) W' hp
            have HIK : Hid (∀ W' d c, FTab encB W' d (W6 * h10) (mskT Q2 W6 (W6 * h10)) → Calls Try.prog 10 #[.agg #[.int .i64 W6, .int .i64 h10, .slice (some ⟨d, 0, none⟩) (W6 * h10) c], .int .i64 0] W' (RetBits0 W6 h10 Q3 W')) := fun W' d c hd => by
              rw [hQ3]
              exact ink_any d c W6 h10 Q2 (by omega) (by omega) W' hd
            have HWD : Hid (1 ≤ W6 ∧ W6 ≤ 1024 ∧ 1 ≤ h10 ∧ h10 ≤ 1024) := by
              show _ ∧ _
              omega
            rw [← hW6] at y1
            have HF1 := Lib.hid (HFR.out wb (by have h := HX.out.1; rw [HNR.out] at h; exact h.flat))
            have ht := HX.out.2.1
            have c0 := ht.c0
            have HTB : Hid (T3 wb gb (.int .i64 Wn) (.int .i64 h4) (.slice (some ⟨d7, 0, none⟩) m7 c7)) := ht
            have HBB : Hid (Below w.heap.size w wb ∧ Below W1.heap.size W1 wb ∧ W1.heap.size ≤ gb ∧ gb < wb.heap.size ∧ w.heap.size < W1.heap.size) := ⟨HX.out.2.2.1, HX.out.2.2.2.1, HB9.out.2.2.1, by have := HB9.out.2.2.2.1; have := HX.out.2.2.2.2; omega, FTab.lt HT1.out (by omega)⟩
            clear hWn6 hW6 hh10 hQ1 hQ2 hQ3 HFR HX HT9 HB9 ht hk hlt hr0 hrl hc9
            go_wp2_with fail
            refine HF1.out.mono ?_
            rintro e w10 ⟨da, ca, rfl, hda, k1, k2, k3, hba⟩
            have hta := HTB.out.below hba
            have b0 := hta.c0
            have b1 := hta.c1
            have b2 := hta.c2
            have bf := hta.fr
            have hgw := hta.lt
            obtain ⟨hTa, hOa⟩ := res_set (x := .int .i64 W6) (y := .int .i64 h10) (z := .slice (some ⟨da, 0, none⟩) (strV W6 * h10) ca) hta
            obtain ⟨Wa, hWa⟩ : ∃ Wa, Wa = resW w10 gb (.int .i64 W6) (.int .i64 h10) (.slice (some ⟨da, 0, none⟩) (strV W6 * h10) ca) := ⟨_, rfl⟩
            rw [← hWa] at hTa hOa
            have hgd : da ≠ gb := by have := HBB.out.2.2.2.1; omega
            have hda2 := hda.heap (hOa.hp da hgd)
            have hwlt : w.heap.size ≤ gb := by have := HBB.out.2.2.1; have := HBB.out.2.2.2.2; omega
            have HBa : Hid (Below w.heap.size w Wa ∧ Below W1.heap.size W1 Wa ∧ W1.heap.size ≤ gb ∧ gb < Wa.heap.size ∧ w.heap.size < W1.heap.size ∧ da < Wa.heap.size ∧ da ≠ gb) :=
              ⟨hOa.bel (bthen HBB.out.1 hba) hwlt, hOa.bel (bthen HBB.out.2.1 hba) HBB.out.2.2.1, HBB.out.2.2.1, by rw [hOa.sz]; exact hgw, HBB.out.2.2.2.2, by rw [hOa.sz]; exact k2, hgd⟩
            have HDa := Lib.hid hda2
            have HTa := Lib.hid hTa
            have HWa : Hid (resW w10 gb (.int .i64 W6) (.int .i64 h10) (.slice (some ⟨da, 0, none⟩) (strV W6 * h10) ca) = Wa) := hWa.symm
            unfold resW at HWa
            obtain ⟨ma, hma⟩ : ∃ m, m = strV W6 * h10 := ⟨_, rfl⟩
            have HMa : Hid (strV W6 * h10 = ma) := hma.symm
            rw [← hma] at HWa HTa ⊢
            clear HF1 HTB HBB hta hgw hTa hOa hWa hgd hda2 hwlt hda k1 k2 k3 hba y1 hma c0
            go_upto_region 20 with fail
            rw [HWa.out]
            clear HWa b0 b1 b2 bf
            have c0 := HTa.out.c0
            have c1 := HTa.out.c1
            have c2 := HTa.out.c2
            obtain ⟨Wb, hWb⟩ : ∃ Wb, Wb = Wa.alloc (.cells #[.int .i64 W6, .int .i64 h10, .slice (some ⟨da, 0, none⟩) ma ca] 29) := ⟨_, rfl⟩
            obtain ⟨Wc, hWc⟩ : ∃ Wc, Wc = Wb.alloc (.cells #[.int .i64 g] 3) := ⟨_, rfl⟩
            obtain ⟨Wd, hWd⟩ : ∃ Wd, Wd = Wc.alloc (.cells #[.int .i64 1, .int .i64 (-1)] 45) := ⟨_, rfl⟩
            have hzb : Wb.heap.size = Wa.heap.size + 1 := by rw [hWb]; exact World.size_alloc _ _
            have hzc : Wc.heap.size = Wa.heap.size + 2 := by rw [hWc, World.size_alloc, hzb]
            have hbb : Below Wa.heap.size Wa Wb := by rw [hWb]; exact balloc (Below.refl _ _) _
            have hbc : Below Wb.heap.size Wb Wc := by rw [hWc]; exact balloc (Below.refl _ _) _
            have hbd : Below Wc.heap.size Wc Wd := by rw [hWd]; exact balloc (Below.refl _ _) _
            have hbad : Below Wa.heap.size Wa Wd := bthen (bthen hbb hbc) hbd
            have hpr : PrA Wd Wa.heap.size (Wa.heap.size + 1) (Wa.heap.size + 2) da ca W6 h10 g 1 (-1) Q1 := by
              have tb : T3 Wb Wa.heap.size (.int .i64 W6) (.int .i64 h10) (.slice (some ⟨da, 0, none⟩) ma ca) := by rw [hWb]; exact T3.new Wa _ _ _ _
              have hgx : Wc.cell? ⟨Wb.heap.size, 0, none⟩ = some (.int .i64 g) := by rw [hWc, cell_of_row _ Wb.heap.size 0 _ _ (0, 0) (heap_alloc_new Wb _)]; rfl
              have hsx : Wd.cell? ⟨Wc.heap.size, 0, none⟩ = some (.int .i64 1) := by rw [hWd, cell_of_row _ Wc.heap.size 0 _ _ (0, 0) (heap_alloc_new Wc _)]; rfl
              have hsy : Wd.cell? ⟨Wc.heap.size, 1, none⟩ = some (.int .i64 (-1)) := by rw [hWd, cell_of_row _ Wc.heap.size 1 _ _ (0, 0) (heap_alloc_new Wc _)]; rfl
              rw [hzb] at hgx
              rw [hzc] at hsx hsy
              have td := (tb.below hbc).below hbd
              refine ⟨⟨td.c0, td.c1, ?_, HDa.out.below hbad HBa.out.2.2.2.2.2.1⟩, keepCell hbd hgx, hsx, hsy⟩
              rw [HMa.out]
              exact td.c2
            have HP1 := Lib.hid (HPR.out Wd _ _ _ _ _ hpr)
            have HWd : Hid (((Wa.alloc (.cells #[.int .i64 W6, .int .i64 h10, .slice (some ⟨da, 0, none⟩) ma ca] 29)).alloc (.cells #[.int .i64 g] 3)).alloc (.cells #[.int .i64 1, .int .i64 (-1)] 45) = Wd) := by rw [hWd, hWc, hWb]; rfl
            have HBAD := Lib.hid hbad
            clear hWb hWc hWd hzb hzc hbb hbc hbd hbad hpr HPR
            go_wp2_with fail
            rw [HWd.out]
            refine HP1.out.mono ?_
            rintro e w11 ⟨dm, cm, rfl, hdm, k1, k2, k3, hb11⟩
            obtain ⟨We, hWe⟩ : ∃ We, We = w11.alloc (.cells #[.int .i64 W6, .int .i64 h10, .slice (some ⟨dm, 0, none⟩) (W6 * h10) cm] 40) := ⟨_, rfl⟩
            have HWe : Hid (w11.alloc (.cells #[.int .i64 W6, .int .i64 h10, .slice (some ⟨dm, 0, none⟩) (W6 * h10) cm] 40) = We) := hWe.symm
            have hbe : Below w11.heap.size w11 We := by rw [hWe]; exact balloc (Below.refl _ _) _
            have hte : T3 We w11.heap.size (.int .i64 W6) (.int .i64 h10) (.slice (some ⟨dm, 0, none⟩) (W6 * h10) cm) := by rw [hWe]; exact T3.new w11 _ _ _ _
            obtain ⟨gm, hgm⟩ : ∃ g, g = w11.heap.size := ⟨_, rfl⟩
            have HGM : Hid (w11.heap.size = gm) := hgm.symm
            rw [← hgm] at hte
            have HAE : Hid (Below Wa.heap.size Wa We) := bthen (bthen HBAD.out hb11) hbe
            have HI1 := Lib.hid (HIK.out We dm cm (hdm.below hbe k2))
            obtain ⟨mm, hmm⟩ : ∃ m, m = W6 * h10 := ⟨_, rfl⟩
            rw [← hmm] at HWe HI1 hte ⊢
            have e0 := hte.c0
            have e1 := hte.c1
            have e2 := hte.c2
            have hbt := HTa.out.below HAE.out
            have b0 := hbt.c0
            have b1 := hbt.c1
            have b2 := hbt.c2
            have bf := hbt.fr
            have HTe : Hid (T3 We gb (.int .i64 W6) (.int .i64 h10) (.slice (some ⟨da, 0, none⟩) ma ca)) := hbt
            have HBe : Hid (Below w.heap.size w We ∧ Below W1.heap.size W1 We ∧ W1.heap.size ≤ gb ∧ gb < We.heap.size ∧ w.heap.size < W1.heap.size) := ⟨HBa.out.1.trans (HAE.out.mono HBa.out.1.size), HBa.out.2.1.trans (HAE.out.mono HBa.out.2.1.size), HBa.out.2.2.1, hbt.lt, HBa.out.2.2.2.2.1⟩
            clear hWe hbe hte hgm hdm k1 k2 k3 hb11 hmm hbt HP1 HWd HBAD HIK HTa HBa HDa HMa c0 c1 c2 HAE
            dsimp only
            go_upto_region 21 with fail
            rw [HWe.out, HGM.out]
            clear HWe HGM
            go_wp2_with fail
            refine HI1.out.mono ?_
            rintro e w12 ⟨dq, cq, rfl, hdq, k1, k2, k3, hbq⟩
            have htq := HTe.out.below hbq
            have r0 := htq.c0
            have r1 := htq.c1
            have r2 := htq.c2
            have rf := htq.fr
            have hgw := htq.lt
            obtain ⟨hTf, hOf⟩ := res_set (x := .int .i64 W6) (y := .int .i64 h10) (z := .slice (some ⟨dq, 0, none⟩) (strV W6 * h10) cq) htq
            obtain ⟨Wf, hWf⟩ : ∃ Wf, Wf = resW w12 gb (.int .i64 W6) (.int .i64 h10) (.slice (some ⟨dq, 0, none⟩) (strV W6 * h10) cq) := ⟨_, rfl⟩
            rw [← hWf] at hTf hOf
            have hgd : dq ≠ gb := by have := HBe.out.2.2.2.1; omega
            have hdq2 := hdq.heap (hOf.hp dq hgd)
            have hwlt : w.heap.size ≤ gb := by have := HBe.out.2.2.1; have := HBe.out.2.2.2.2; omega
            have HBf : Hid (Below w.heap.size w Wf ∧ Below W1.heap.size W1 Wf ∧ W1.heap.size ≤ gb ∧ gb < Wf.heap.size ∧ w.heap.size < W1.heap.size ∧ dq < Wf.heap.size ∧ W1.heap.size ≤ dq) :=
              ⟨hOf.bel (bthen HBe.out.1 hbq) hwlt, hOf.bel (bthen HBe.out.2.1 hbq) HBe.out.2.2.1, HBe.out.2.2.1, by rw [hOf.sz]; exact hgw, HBe.out.2.2.2.2, by rw [hOf.sz]; exact k2, by have := HBe.out.2.1.size; omega⟩
            have HDf := Lib.hid hdq2
            have HTf := Lib.hid hTf
            have HWf : Hid (resW w12 gb (.int .i64 W6) (.int .i64 h10) (.slice (some ⟨dq, 0, none⟩) (strV W6 * h10) cq) = Wf) := hWf.symm
            unfold resW at HWf
            obtain ⟨mq, hmq⟩ : ∃ m, m = strV W6 * h10 := ⟨_, rfl⟩
            have HMq : Hid (strV W6 * h10 = mq) := hmq.symm
            rw [← hmq] at HWf HTf ⊢
            clear HI1 HTe HBe htq hgw hTf hOf hWf hgd hdq2 hwlt hdq k1 k2 k3 hbq hmq e0 e1 e2 b0 b1 b2 bf
            go_upto_region 22 with fail
            rw [HWf.out]
            clear HWf r0 r1 r2 rf
            have htv := FTab.below HT1.out HBf.out.2.1 (FTab.lt HT1.out (by omega))
            have v0 : Wf.cell? ⟨w.heap.size, 0, none⟩ = some (.int .i64 a0) := htv.at' 0 (by omega)
            have v1 : Wf.cell? ⟨w.heap.size, 1, none⟩ = some (.int .i64 a1) := htv.at' 1 (by omega)
            have v2 : Wf.cell? ⟨w.heap.size, 2, none⟩ = some (.int .i64 a2) := htv.at' 2 (by omega)
            have v3 : Wf.cell? ⟨w.heap.size, 3, none⟩ = some (.int .i64 a3) := htv.at' 3 (by omega)
            have v4 : Wf.cell? ⟨w.heap.size, 4, none⟩ = some (.int .i64 a4) := htv.at' 4 (by omega)
            have vf := htv.fz
            obtain ⟨z0, z1, z2, z3, z4, z5, z6⟩ := HA.out
            obtain ⟨vw, hvw⟩ : ∃ vw, vw = vwV a0 a1 a2 a3 a4 a5 a6 ns := ⟨_, rfl⟩
            have x0 : IntKind.i64.wrap (2 + a0 % 2) = (vw.sc : Int) := by rw [hvw]; show _ = ((2 + a0 % 2).toNat : Int); rw [Int.toNat_of_nonneg (by omega)]; exact IntWalk.i64_in _ (by omega)
            have s0 := smod_any a0 2 (by omega) (by omega) z0
            have s1 : ∀ W, Calls Try.prog 5 #[.int .i64 a1, .int .i64 33] W (fun e w' => e = .returned (.int .i64 (vw.x : Int)) ∧ w' = W) := fun W => by
              have e := smod_any a1 33 (by omega) (by omega) z1 W
              rw [show a1 % 33 = (vw.x : Int) by rw [hvw]; show _ = ((a1 % 33).toNat : Int); omega] at e
              exact e
            have s2 : ∀ W, Calls Try.prog 5 #[.int .i64 a2, .int .i64 33] W (fun e w' => e = .returned (.int .i64 (vw.y : Int)) ∧ w' = W) := fun W => by
              have e := smod_any a2 33 (by omega) (by omega) z2 W
              rw [show a2 % 33 = (vw.y : Int) by rw [hvw]; show _ = ((a2 % 33).toNat : Int); omega] at e
              exact e
            have s3 : ∀ W, Calls Try.prog 5 #[.int .i64 a3, .int .i64 4] W (fun e w' => e = .returned (.int .i64 (vw.turn : Int)) ∧ w' = W) := fun W => by
              have e := smod_any a3 4 (by omega) (by omega) z3 W
              rw [show a3 % 4 = (vw.turn : Int) by rw [hvw]; show _ = ((a3 % 4).toNat : Int); omega] at e
              exact e
            have s4 : ∀ W, Calls Try.prog 5 #[.int .i64 a4, .int .i64 2] W (fun e w' => e = .returned (.int .i64 (vw.blur : Int)) ∧ w' = W) := fun W => by
              have e := smod_any a4 2 (by omega) (by omega) z4 W
              rw [show a4 % 2 = (vw.blur : Int) by rw [hvw]; show _ = ((a4 % 2).toNat : Int); omega] at e
              exact e
            have HS0 : Hid (∀ W, Calls Try.prog 5 #[.int .i64 a0, .int .i64 2] W (fun e w' => e = .returned (.int .i64 (a0 % 2)) ∧ w' = W)) := s0
            have HS1 := Lib.hid s1
            have HS2 := Lib.hid s2
            have HS3 := Lib.hid s3
            have HS4 := Lib.hid s4
            have HVW := Lib.hid hvw
            clear htv z0 z1 z2 z3 z4 z5 z6 hvw s0 s1 s2 s3 s4
            go_upto_region 24 with fail
            have hcam0 : CamS w Wf gb dq cq W6 h10 Q3 (rawF a0 a1 a2 a3 a4 a5 a6 (.slice on nn cn)) := ⟨FTab.below HT1.out HBf.out.2.1 (FTab.lt HT1.out (by omega)), by rw [HMq.out]; exact HTf.out, HDf.out, HBf.out.1, by have := HBf.out; omega⟩
            have hcam1 := ((((((hcam0.drew.set (i := 0) (by omega) (.int .i64 vw.sc)).set (i := 1) (by omega) (.int .i64 vw.x)).set (i := 2) (by omega) (.int .i64 vw.y)).set (i := 3) (by omega) (.int .i64 vw.turn)).set (i := 4) (by omega) (.int .i64 vw.blur))).congr (rawF_is (a0 := vw.sc) (a1 := vw.x) (a2 := vw.y) (a3 := vw.turn) (a4 := vw.blur) (a5 := a5) (a6 := a6) (v7 := .slice on nn cn) rfl rfl rfl rfl rfl rfl rfl rfl)
            obtain ⟨Wg, hWg⟩ : ∃ Wg, Wg = Wf.drew := ⟨_, rfl⟩
            rw [← hWg] at hcam1
            have v0' : Wg.cell? ⟨w.heap.size, 0, none⟩ = some (.int .i64 a0) := by rw [hWg]; exact v0
            have v1' : Wg.cell? ⟨w.heap.size, 1, none⟩ = some (.int .i64 a1) := by rw [hWg]; exact v1
            have v2' : Wg.cell? ⟨w.heap.size, 2, none⟩ = some (.int .i64 a2) := by rw [hWg]; exact v2
            have v3' : Wg.cell? ⟨w.heap.size, 3, none⟩ = some (.int .i64 a3) := by rw [hWg]; exact v3
            have v4' : Wg.cell? ⟨w.heap.size, 4, none⟩ = some (.int .i64 a4) := by rw [hWg]; exact v4
            have vf' : ∀ o, Wg.frozen? ⟨w.heap.size, o, none⟩ = false := fun o => by rw [hWg]; exact vf o
            obtain ⟨Wh, hWh⟩ : ∃ Wh, Wh = ((((Wg.setCell ⟨w.heap.size, 0, none⟩ (.int .i64 vw.sc)).setCell ⟨w.heap.size, 1, none⟩ (.int .i64 vw.x)).setCell ⟨w.heap.size, 2, none⟩ (.int .i64 vw.y)).setCell ⟨w.heap.size, 3, none⟩ (.int .i64 vw.turn)).setCell ⟨w.heap.size, 4, none⟩ (.int .i64 vw.blur) := ⟨_, rfl⟩
            rw [← hWh] at hcam1
            have HWG : Hid (Wf.drew = Wg) := hWg.symm
            have HWH : Hid (((((Wg.setCell ⟨w.heap.size, 0, none⟩ (.int .i64 vw.sc)).setCell ⟨w.heap.size, 1, none⟩ (.int .i64 vw.x)).setCell ⟨w.heap.size, 2, none⟩ (.int .i64 vw.y)).setCell ⟨w.heap.size, 3, none⟩ (.int .i64 vw.turn)).setCell ⟨w.heap.size, 4, none⟩ (.int .i64 vw.blur) = Wh) := hWh.symm
            have HC1 := Lib.hid hcam1
            clear hcam0 hcam1 hWg hWh HTf HDf HBf HT1
            refine wp_region_still_tail 17 (by kernel_rfl) (by kernel_rfl) ?_
            simp only [List.take_succ_cons, List.take_zero, List.drop_succ_cons, List.drop_zero]
            repeat (first | still_step | (refine wpStill_step (fun K hK => ?_); go_simp; (first | (with_reducible refine ⟨_, HS0.out _, hK _ ?_⟩) | (with_reducible refine ⟨_, HS1.out _, hK _ ?_⟩) | (with_reducible refine ⟨_, HS2.out _, hK _ ?_⟩) | (with_reducible refine ⟨_, HS3.out _, hK _ ?_⟩) | (with_reducible refine ⟨_, HS4.out _, hK _ ?_⟩)); clear hK K))
            refine wpStill_nil ?_
            change wpList _ _ _ _ _ Wf.drew
            rw [HWG.out]
            clear HWG v0 v1 v2 v3 v4 vf HS0 HS1 HS2 HS3 HS4 x0
            go_upto_region 25 with fail
            rw [HWH.out]
            clear HWH v0' v1' v2' v3' v4' vf'
            obtain ⟨z0, z1, z2, z3, z4, z5, z6⟩ := HA.out
            have u6 : Wh.cell? ⟨w.heap.size, 6, none⟩ = some (.int .i64 a6) := HC1.out.bx.at' 6 (by omega)
            have uf := HC1.out.bx.fz
            have hdk : a6 % 100 = (vw.dark : Int) := by rw [HVW.out]; show _ = ((a6 % 100).toNat : Int); omega
            have hlt2 : (vw.dark : Int) + 60 + a5 % 90 = (vw.light : Int) := by rw [← hdk, HVW.out]; show _ = ((a6 % 100 + 60 + a5 % 90).toNat : Int); omega
            have HS6 : Hid (∀ W, Calls Try.prog 5 #[.int .i64 a6, .int .i64 100] W (fun e w' => e = .returned (.int .i64 (vw.dark : Int)) ∧ w' = W)) := fun W => by
              have e := smod_any a6 100 (by omega) (by omega) z6 W
              rw [hdk] at e
              exact e
            have HS5 : Hid (∀ W, Calls Try.prog 5 #[.int .i64 a5, .int .i64 90] W (fun e w' => e = .returned (.int .i64 (a5 % 90)) ∧ w' = W)) := fun W => smod_any a5 90 (by omega) (by omega) z5 W
            have hcam2 := (HC1.out.set (i := 6) (by omega) (.int .i64 vw.dark)).congr (rawF_is (a0 := vw.sc) (a1 := vw.x) (a2 := vw.y) (a3 := vw.turn) (a4 := vw.blur) (a5 := a5) (a6 := vw.dark) (v7 := .slice on nn cn) rfl rfl rfl rfl rfl rfl rfl rfl)
            obtain ⟨Wi, hWi⟩ : ∃ Wi, Wi = Wh.setCell ⟨w.heap.size, 6, none⟩ (.int .i64 vw.dark) := ⟨_, rfl⟩
            rw [← hWi] at hcam2
            have HWI : Hid (Wh.setCell ⟨w.heap.size, 6, none⟩ (.int .i64 vw.dark) = Wi) := hWi.symm
            have HC2 := Lib.hid hcam2
            have x1 : IntKind.i64.wrap ((vw.dark : Int) + 60) = (vw.dark : Int) + 60 := by
              have := (vwV_good a0 a1 a2 a3 a4 a5 a6 ns).ok.tone
              rw [← HVW.out] at this
              exact IntWalk.i64_in _ (by omega)
            have x2 : IntKind.i64.wrap ((vw.dark : Int) + 60 + a5 % 90) = (vw.light : Int) := by
              have := (vwV_good a0 a1 a2 a3 a4 a5 a6 ns).ok.tone
              rw [← HVW.out] at this
              rw [hlt2]
              exact IntWalk.i64_in _ (by omega)
            clear z0 z1 z2 z3 z4 z5 z6 hdk hlt2 hcam2 hWi HC1
            go_wp2_with fail
            refine (HS6.out _).mono ?_
            rintro e w13 ⟨rfl, hw13⟩
            rw [hw13]
            clear hw13 HS6
            go_upto_region 26 with fail
            rw [HWI.out]
            clear HWI u6 uf
            have u6 : Wi.cell? ⟨w.heap.size, 6, none⟩ = some (.int .i64 vw.dark) := HC2.out.bx.at' 6 (by omega)
            have u5 : Wi.cell? ⟨w.heap.size, 5, none⟩ = some (.int .i64 a5) := HC2.out.bx.at' 5 (by omega)
            have hcam3 := (HC2.out.drew.set (i := 5) (by omega) (.int .i64 vw.light)).congr (rawF_is (a0 := vw.sc) (a1 := vw.x) (a2 := vw.y) (a3 := vw.turn) (a4 := vw.blur) (a5 := vw.light) (a6 := vw.dark) (v7 := .slice on nn cn) rfl rfl rfl rfl rfl rfl rfl rfl)
            obtain ⟨Wk, hWk⟩ : ∃ Wk, Wk = Wi.drew := ⟨_, rfl⟩
            rw [← hWk] at hcam3
            have uf : ∀ o, Wk.frozen? ⟨w.heap.size, o, none⟩ = false := fun o => by rw [hWk]; exact HC2.out.bx.fz o
            have u5' : Wk.cell? ⟨w.heap.size, 5, none⟩ = some (.int .i64 a5) := by rw [hWk]; exact u5
            obtain ⟨Wj, hWj⟩ : ∃ Wj, Wj = Wk.setCell ⟨w.heap.size, 5, none⟩ (.int .i64 vw.light) := ⟨_, rfl⟩
            rw [← hWj] at hcam3
            have HWK : Hid (Wi.drew = Wk) := hWk.symm
            have HWJ : Hid (Wk.setCell ⟨w.heap.size, 5, none⟩ (.int .i64 vw.light) = Wj) := hWj.symm
            have HC3 := Lib.hid hcam3
            clear hcam3 hWk hWj HC2
            refine wp_region_still_tail 8 (by kernel_rfl) (by kernel_rfl) ?_
            simp only [List.take_succ_cons, List.take_zero, List.drop_succ_cons, List.drop_zero]
            repeat (first | still_step | (refine wpStill_step (fun K hK => ?_); go_simp; (first | (with_reducible refine ⟨_, HS5.out _, hK _ ?_⟩)); clear hK K))
            refine wpStill_nil ?_
            change wpList _ _ _ _ _ Wi.drew
            rw [HWK.out]
            clear HWK u6 u5 HS5 x1 x2
            go_upto_region 27 with fail
            rw [HWJ.out]
            clear HWJ uf u5'
            have u7 : Wj.cell? ⟨w.heap.size, 7, none⟩ = some (.slice on nn cn) := HC3.out.bx.at' 7 (by omega)
            obtain ⟨mn, hmn⟩ : ∃ m, m = min nn 20 := ⟨_, rfl⟩
            have hmn2 : mn ≤ nn ∧ mn ≤ 20 := by omega
            have m1 : (if (20 : Int) < (nn : Int) then (20 : Int) else (nn : Int)) = (mn : Int) := by split <;> omega
            have m1' : (if 20 < nn then (20 : Int) else (nn : Int)) = (mn : Int) := by split <;> omega
            have m2 : (if (nn : Int) < 20 then (nn : Int) else (20 : Int)) = (mn : Int) := by split <;> omega
            have m2' : (if nn < 20 then (nn : Int) else (20 : Int)) = (mn : Int) := by split <;> omega
            have hmnc : mn ≤ cn := by omega
            have HMN := Lib.hid hmn
            clear hmn
            go_wp2_with fail
            go_loopw [185, 21] (fun i s wr => ∃ k : Nat, ∃ oa m cap, k ≤ mn ∧ i = .int .i64 k ∧ s = .slice oa m cap ∧ Hid (m = (noisK vw.blur ns k).length ∧ Below Wj.heap.size Wj wr ∧ Own wr Wj.heap.size 3 1 encInt (.slice oa m cap) (noisK vw.blur ns k))) (fun i _ _ => mn - (intOf i).toNat)
            case atStart => exact ⟨0, none, 0, 0, by omega, rfl, rfl, by rw [noisK_zero]; rfl, Below.refl _ _, by rw [noisK_zero]; exact Own.nil _ _ _ _ _⟩
            case round =>
              obtain ⟨k, oa, m, cap, hk, rfl, rfl, HX⟩ := hrel
              obtain ⟨wb, rfl⟩ : ∃ wb : World, wb = wr := ⟨_, rfl⟩
              by_cases hlt : k < mn
              · clear m1 m1' m2 m2' u7
                have kd : (k : Int) < (mn : Int) := by omega
                have kk : IntKind.i64.wrap ((k : Int) + 1) = (k : Int) + 1 := IntWalk.i64_in _ (by omega)
                have hkl : k < ns.length := by have := HNN.out; omega
                obtain ⟨b, off, rfl, hcell, hx64⟩ := HNS.out k hkl
                have hcam := HC3.out.below HX.out.2.1
                have hc := hcell wb hcam.bel
                have v4 : wb.cell? ⟨w.heap.size, 4, none⟩ = some (.int .i64 vw.blur) := hcam.bx.at' 4 (by omega)
                by_cases hbl : vw.blur = 0
                · have hsucc := noisK_succ hbl hkl
                  obtain ⟨x, hx⟩ : ∃ x, x = ns[k] := ⟨_, rfl⟩
                  rw [← hx] at hc hx64 hsucc
                  have q1 : ((vw.blur : Int) == 0) = true := by rw [hbl]; rfl
                  have HSM := Lib.hid (smod_any x 29 (by omega) (by omega) hx64 wb)
                  obtain ⟨y, hy⟩ : ∃ y, y = x % 29 - 14 := ⟨_, rfl⟩
                  have y1 : IntKind.i64.wrap (x % 29 - 14) = y := by rw [hy]; exact IntWalk.i64_in _ (by omega)
                  rw [← hy] at hsucc
                  obtain ⟨xs, hxs⟩ : ∃ xs, xs = noisK vw.blur ns k := ⟨_, rfl⟩
                  have hlen := noisK_len vw.blur ns k
                  have HSU : Hid (noisK vw.blur ns (k + 1) = xs ++ [y] ∧ m = xs.length ∧ xs.length ≤ 20) := by rw [hxs]; exact ⟨hsucc, HX.out.1, by omega⟩
                  have hown := HX.out.2.2
                  rw [← hxs] at hown
                  have HOW := Lib.hid (Own.alloc hown (.cells #[.int .i64 y] 3))
                  have HNEW : Hid (∀ (j : Nat) (u : Value), (encInt y)[j]? = some u → (wb.alloc (.cells #[.int .i64 y] 3)).cell? ((⟨wb.heap.size, 0, none⟩ : Addr).add j) = some u) := World.news_of_block (cs := #[.int .i64 y]) (t := 3) (fr := (0, 0)) (heap_alloc_new wb _)
                  have HBL := Lib.hid (balloc HX.out.2.1 (.cells #[.int .i64 y] 3))
                  have HSZ := Lib.hid HX.out.2.1.size
                  clear hcell hx64 hx hy hxs hlen hown hsucc hcam HX hbl
                  go_wp2_with fail
                  refine HSM.out.mono ?_
                  rintro e w14 ⟨rfl, rfl⟩
                  clear HSM
                  go_wp2_with (at_builtin; refine wpList_app1L rfl (.tmp 192) (.tmp 196) 22 rfl elemI Try.underlying22 Wj.heap.size (.slice oa m cap) xs encInt rfl HOW.out y ⟨w14.heap.size, 0, none⟩ 1 rfl rfl HNEW.out ?c1 ?c2 ?c3 ?c4 ?_)
                  case c1 => simp [encInt, Value.oneCell']
                  case c2 => have := HSU.out.2.2; omega
                  case c3 => have := HSU.out.2.2; unfold maxLen; omega
                  case c4 => have := HSZ.out; (first | omega | (rw [World.size_alloc]; omega))
                  intro g3 cap3 w15 hown3 hgr3 _
                  have HNX : Hid (xs.length + 1 = (noisK vw.blur ns (k + 1)).length ∧ Below Wj.heap.size Wj w15 ∧ Own w15 Wj.heap.size 3 1 encInt (.slice (some ⟨g3, 0, none⟩) (xs.length + 1) cap3) (noisK vw.blur ns (k + 1))) := by
                    refine ⟨by rw [HSU.out.1, List.length_append]; rfl, Own.grown HOW.out HBL.out (Nat.le_refl _) hgr3, ?_⟩
                    rw [HSU.out.1]
                    exact hown3
                  clear hown3 hgr3 HOW HNEW HBL HSU
                  go_wp2_with fail
                  go_roundw
                  case rel => exact ⟨k + 1, _, _, _, by omega, by go_num, rfl, HNX⟩
                  case measure => simp [intOf]; omega
                · have q1 : ((vw.blur : Int) == 0) = false := by rw [beq_eq_false_iff_ne]; omega
                  have q2 : ¬ (vw.blur : Int) = 0 := by omega
                  have HNX : Hid (m = (noisK vw.blur ns (k + 1)).length ∧ Below Wj.heap.size Wj wb ∧ Own wb Wj.heap.size 3 1 encInt (.slice oa m cap) (noisK vw.blur ns (k + 1))) := by
                    have h := HX.out
                    rw [noisK_none hbl] at h
                    rw [noisK_none hbl]
                    exact h
                  clear hcell hx64 hcam HX hbl
                  go_wp2_with fail
                  go_roundw
                  case rel => exact ⟨k + 1, _, _, _, by omega, by go_num, rfl, HNX⟩
                  case measure => simp [intOf]; omega
              · obtain rfl : mn = k := by omega
                have hvg := vwV_good a0 a1 a2 a3 a4 a5 a6 ns
                rw [← HVW.out] at hvg
                have hno : noisK vw.blur ns mn = vw.noise := by
                  have e := noisK_all vw.blur ns
                  rw [← HNN.out, ← HMN.out] at e
                  rw [e, HVW.out]
                  rfl
                have hX := HX.out
                rw [hno] at hX
                obtain ⟨hm, hbj, hown⟩ := hX
                have hcam := HC3.out.below hbj
                have u7b : wb.cell? ⟨w.heap.size, 7, none⟩ = some (.slice on nn cn) := hcam.bx.at' 7 (by omega)
                have uf := hcam.bx.fz
                have hcam4 := (hcam.set (i := 7) (by omega) (.slice oa m cap)).congr (rawF_is (a0 := vw.sc) (a1 := vw.x) (a2 := vw.y) (a3 := vw.turn) (a4 := vw.blur) (a5 := vw.light) (a6 := vw.dark) (v7 := .slice oa m cap) rfl rfl rfl rfl rfl rfl rfl rfl)
                have hwj : w.heap.size < Wj.heap.size := FTab.lt HC3.out.bx (by omega)
                have hown4 := Own.otherI (o := 7) hown hwj (.slice oa m cap)
                obtain ⟨Wl, hWl⟩ : ∃ Wl, Wl = wb.setCell ⟨w.heap.size, 7, none⟩ (.slice oa m cap) := ⟨_, rfl⟩
                rw [← hWl] at hcam4 hown4
                have HWL : Hid (wb.setCell ⟨w.heap.size, 7, none⟩ (.slice oa m cap) = Wl) := hWl.symm
                have hfl : Flat Wl 1 encInt oa vw.noise := by
                  obtain ⟨oa2, cap2, e2, -, hf⟩ := hown4.flat (fun _ => rfl)
                  cases e2
                  exact hf
                obtain ⟨T, hT⟩ : ∃ T, turnN ⟨W6, h10, Q3⟩ vw.turn = T := ⟨_, rfl⟩
                obtain ⟨WI, hWI⟩ : ∃ v, v = T.W * vw.sc + 32 := ⟨_, rfl⟩
                obtain ⟨HI, hHI⟩ : ∃ v, v = T.H * vw.sc + 32 := ⟨_, rfl⟩
                obtain ⟨q61, q62, q63⟩ := HQ3.out
                obtain ⟨hld, hll, hN, hWn, hP0, hz, hrs⟩ := HPL.out
                have hbig : (Wn + 6) * vw.sc + 32 ≤ 1024 := by
                  have e1 : (Wn + 6) * vw.sc ≤ 322 * 3 := Nat.mul_le_mul (by omega) hvg.ok.sc.2
                  omega
                have hsm : 10 * vw.sc ≤ 10 * 3 := Nat.mul_le_mul (Nat.le_refl _) hvg.ok.sc.2
                have hdim : WI ≤ 1024 ∧ HI ≤ 1024 := by
                  have e := turnN_dims ⟨W6, h10, Q3⟩ vw.turn
                  rw [hT] at e
                  rcases e with ⟨e1, e2⟩ | ⟨e1, e2⟩
                  · rw [hWI, hHI, e1, e2]
                    show W6 * vw.sc + 32 ≤ 1024 ∧ h10 * vw.sc + 32 ≤ 1024
                    rw [q61, q62]; omega
                  · rw [hWI, hHI, e1, e2]
                    show h10 * vw.sc + 32 ≤ 1024 ∧ W6 * vw.sc + 32 ≤ 1024
                    rw [q61, q62]; omega
                have hpic := pic_ok (g := g) (v := vw) hld (by omega) hg1 hN hWn (by rw [← hP0]; exact hz)
                rw [← q63] at hpic
                have HCP := Lib.hid (capt_any dq cq W6 h10 Q3 ⟨HWD.out.1, HWD.out.2.1⟩ ⟨HWD.out.2.2.1, HWD.out.2.2.2⟩ vw hvg.ok oa cap T hT WI HI hWI hHI hdim.1 hdim.2 Wl hcam4.d hfl)
                have HNM : Hid (∀ W' d c, FTab encB W' d (WI * HI) (capT (capP T.p vw.sc vw.x vw.y) vw WI HI) → Calls Try.prog 12 #[.agg #[.int .i64 WI, .int .i64 HI, .slice (some ⟨d, 0, none⟩) (WI * HI) c]] W' (RetTxt0 l W')) := fun W' d c hd => by
                  rw [q61, q62] at hT
                  exact number_see (f := fV l) (u := u) (N := N) (g := g) (W := Wn) hld hll.1 (by omega) hN (fun k hk => fV_eq hld (by omega)) (by omega) hg1 hWn hvg.ok hvg.sc hbig hvg.tone hvg.val hvg.quiet hpic.inn hpic.form hT hWI hHI d c W' hd
                rw [HMq.out, ← hm] at HCP
                have u0 : Wl.cell? ⟨w.heap.size, 0, none⟩ = some (.int .i64 vw.sc) := hcam4.bx.at' 0 (by omega)
                have u1 : Wl.cell? ⟨w.heap.size, 1, none⟩ = some (.int .i64 vw.x) := hcam4.bx.at' 1 (by omega)
                have u2 : Wl.cell? ⟨w.heap.size, 2, none⟩ = some (.int .i64 vw.y) := hcam4.bx.at' 2 (by omega)
                have u3 : Wl.cell? ⟨w.heap.size, 3, none⟩ = some (.int .i64 vw.turn) := hcam4.bx.at' 3 (by omega)
                have u4 : Wl.cell? ⟨w.heap.size, 4, none⟩ = some (.int .i64 vw.blur) := hcam4.bx.at' 4 (by omega)
                have u5 : Wl.cell? ⟨w.heap.size, 5, none⟩ = some (.int .i64 vw.light) := hcam4.bx.at' 5 (by omega)
                have u6 : Wl.cell? ⟨w.heap.size, 6, none⟩ = some (.int .i64 vw.dark) := hcam4.bx.at' 6 (by omega)
                have u7c : Wl.cell? ⟨w.heap.size, 7, none⟩ = some (.slice oa m cap) := hcam4.bx.at' 7 (by omega)
                have t0 := hcam4.t.c0
                have t1 := hcam4.t.c1
                have t2 := hcam4.t.c2
                rw [HMq.out] at t2
                have HBL := Lib.hid hcam4.bel
                obtain ⟨TT, hTT⟩ : ∃ TT, TT = capT (capP T.p vw.sc vw.x vw.y) vw WI HI := ⟨_, rfl⟩
                rw [← hTT] at HCP HNM
                clear hvg hno hm hbj hown hcam hcam4 hwj hown4 hWl hfl hT hWI hHI q61 q62 q63 hld hll hN hWn hP0 hz hrs hbig hsm hdim hpic hTT HX hk hlt m1 m1' m2 m2' u7 HVW HC3
                go_upto_region 35 with fail
                rw [HWL.out]
                clear HWL u7b uf
                go_wp2_with fail
                refine HCP.out.mono ?_
                rintro e w16 ⟨di, ci, rfl, hdi, k1, k2, k3, hb16⟩
                obtain ⟨Wz, hWz⟩ : ∃ Wz, Wz = w16.alloc (.cells #[.int .i64 WI, .int .i64 HI, .slice (some ⟨di, 0, none⟩) (WI * HI) ci] 48) := ⟨_, rfl⟩
                have HWZ : Hid (w16.alloc (.cells #[.int .i64 WI, .int .i64 HI, .slice (some ⟨di, 0, none⟩) (WI * HI) ci] 48) = Wz) := hWz.symm
                have hbz : Below w16.heap.size w16 Wz := by rw [hWz]; exact balloc (Below.refl _ _) _
                have htz : T3 Wz w16.heap.size (.int .i64 WI) (.int .i64 HI) (.slice (some ⟨di, 0, none⟩) (WI * HI) ci) := by rw [hWz]; exact T3.new w16 _ _ _ _
                have HN1 := Lib.hid (HNM.out Wz di ci (hdi.below hbz k2))
                have HBZ : Hid (Below w.heap.size w Wz) := bthen (bthen HBL.out hb16) hbz
                obtain ⟨mi, hmi⟩ : ∃ m, m = WI * HI := ⟨_, rfl⟩
                obtain ⟨gz, hgz⟩ : ∃ g, g = w16.heap.size := ⟨_, rfl⟩
                have HGZ : Hid (w16.heap.size = gz) := hgz.symm
                rw [← hgz] at htz
                rw [← hmi] at HWZ HN1 htz ⊢
                have p0 := htz.c0
                have p1 := htz.c1
                have p2 := htz.c2
                clear hWz hbz htz hdi k1 k2 k3 hb16 hmi hgz HNM HCP HBL u0 u1 u2 u3 u4 u5 u6 u7c t0 t1 t2
                dsimp only
                go_upto_region 36 with fail
                rw [HWZ.out, HGZ.out]
                clear HWZ HGZ
                go_wp2_with fail
                refine HN1.out.mono ?_
                rintro e w17 ⟨rfl, hb17⟩
                rw [← HS.out]
                have q1 : (S.toList == S.toList) = true := by simp
                have HF : Hid (RetYes w (.returned (.bool true)) w17) := ⟨rfl, bthen HBZ.out hb17⟩
                clear HN1 HBZ hb17 p0 p1 p2
                go_wp2
                go_ret
                exact HF.out
end Go.Proofs.Ytcadgjhfdolejaa
