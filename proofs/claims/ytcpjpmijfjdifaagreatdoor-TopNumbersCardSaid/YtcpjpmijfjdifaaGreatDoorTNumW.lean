/-
  The walk of TopNumbers. Own text.
-/
import Derived.Test.YtcpjpmijfjdifaaGreatDoorTNumA
import Derived.Test.YtcpjpmijfjdifaaGreatDoorMCut
namespace Go.Proofs.YtcpjpmijfjdifaaGreatDoor
open Go.RowKit
set_option linter.unusedVariables false
set_option maxRecDepth 100000 in
set_option maxHeartbeats 16000000 in
theorem tnum_any (a0 a1 a2 : Int) (w : World) (ht : TabP w) :
    Calls Tryz.prog 3 #[.int .i64 a0, .int .i64 a1, .int .i64 a2] w (RetTrue w) := by
  have HT := Lib.hid ht
  clear ht
  have hmb := mcV_bd (x := a0) (lo := 1) (hi := 200) (by decide)
  have hpb := mcV_bd (x := a1) (lo := 1) (hi := 12) (by decide)
  have hdb := mcV_bd (x := a2) (lo := 3) (hi := 9) (by decide)
  have HW1 : Hid (∀ W, Calls Tryz.prog 6 #[.int .i64 a0, .int .i64 1, .int .i64 200] W fun e w' => e = .returned (.int .i64 (mcV a0 1 200)) ∧ W = w') := fun W => mcut_any a0 1 200 W (by decide) (by decide) (by decide)
  have HW2 : Hid (∀ W, Calls Tryz.prog 6 #[.int .i64 a1, .int .i64 1, .int .i64 12] W fun e w' => e = .returned (.int .i64 (mcV a1 1 12)) ∧ W = w') := fun W => mcut_any a1 1 12 W (by decide) (by decide) (by decide)
  have HW3 : Hid (∀ W, Calls Tryz.prog 6 #[.int .i64 a2, .int .i64 3, .int .i64 9] W fun e w' => e = .returned (.int .i64 (mcV a2 3 9)) ∧ W = w') := fun W => mcut_any a2 3 9 W (by decide) (by decide) (by decide)
  generalize mcV a0 1 200 = ci at *
  generalize mcV a1 1 12 = pi at *
  generalize mcV a2 3 9 = di at *
  obtain ⟨c, rfl⟩ : ∃ c : Nat, ci = c := ⟨ci.toNat, by omega⟩
  obtain ⟨P, rfl⟩ : ∃ P : Nat, pi = P := ⟨pi.toNat, by omega⟩
  obtain ⟨d, rfl⟩ : ∃ d : Nat, di = d := ⟨di.toNat, by omega⟩
  have hc1 : 1 ≤ c := by omega
  have hc2 : c ≤ 200 := by omega
  have hp1 : 1 ≤ P := by omega
  have hp2 : P ≤ 12 := by omega
  have hd1 : 3 ≤ d := by omega
  have hd2 : d ≤ 9 := by omega
  clear hmb hpb hdb
  have HS0 : Hid (Calls Tryz.prog 4 #[.int .i64 5, .int .i64 2] w (RetStack 5 2 3 w)) := stack_any 5 2 w (by decide) (by decide) (by decide) (by decide)
  have HS1 : Hid (∀ W, Calls Tryz.prog 4 #[.int .i64 c, .int .i64 P] W (RetStack c P (sheetsV c P) W)) := fun W => stack_any c P W hc1 (by omega) hp1 (by omega)
  have hsb := sheets_bd (c := c) hp1 hc1
  have hsg := sheets_ge (c := c) hp1
  generalize sheetsV c P = S at *
  go_enter Tryz.func3, Tryz.ntmps3
  go_wp2_with fail
  refine HS0.out.mono ?_
  rintro e w2 ⟨v, rv, rfl, hnb⟩
  clear HS0
  obtain ⟨b0, f0, c0, rfl, -⟩ := tm_ownV hnb.r.op (i := 0) (by rw [hnb.r.len, stackS_len]; decide)
  rw [show rv.length = 3 from by rw [hnb.r.len, stackS_len]] at hnb ⊢
  have HNB := Lib.hid hnb
  have HB2 : Hid (Below w.heap.size w w2) := hnb.bel
  obtain ⟨br, fr, cr, r2, -⟩ := stack_cell (s := 2) (q := 0) hnb (Below.refl _ w2) (by decide) (by decide)
  have HR2 : Hid (IsSlice w2 1 encInt (.slice (some ⟨br, fr, none⟩) 2 cr) [3, 0]) := by
    have hl : 2 < rv.length := by rw [hnb.r.len, stackS_len]; decide
    have hl2 : 2 < (stackS 5 2 3 3).length := by rw [stackS_len]; decide
    obtain ⟨bq, fq, cq, e1, cv⟩ := tm_ownV hnb.r.op hl
    simp only [Value.slice.injEq, Option.some.injEq, Addr.mk.injEq] at e1
    obtain ⟨⟨rfl, rfl, -⟩, -, rfl⟩ := e1
    rw [cv] at r2
    have hrow := (hnb.r.row 2 hl hl2).isSlice (fun _ => rfl)
    rw [Option.some.inj r2] at hrow
    exact hrow
  have HSZ : Hid (∀ o, (w2.alloc o).heap.size = w2.heap.size + 1) := fun o => World.size_alloc _ _
  clear hnb
  go_wp2_with fail
  refine (equal_any _ _ [3, 0] _ (HR2.out.below (balloc (Below.refl _ _) _)) (lit2 rfl 3 0)).mono ?_
  rintro e w3 ⟨rfl, hb3⟩
  have HB3 : Hid (Below w.heap.size w w3) := HB2.out.trans (((balloc (Below.refl _ _) _).trans (hb3.mono (balloc (Below.refl _ _) _).size)).mono HB2.out.size)
  clear hb3 r2 HR2 HNB HSZ HB2
  go_wp2_with fail
  refine (HW1.out _).mono ?_
  rintro e w1a ⟨rfl, rfl⟩
  go_wp2_with fail
  refine (HW2.out _).mono ?_
  rintro e w1b ⟨rfl, rfl⟩
  go_wp2_with fail
  refine (HW3.out _).mono ?_
  rintro e w1c ⟨rfl, rfl⟩
  clear HW1 HW2 HW3
  go_wp2_with fail
  refine (HS1.out _).mono ?_
  rintro e w0 ⟨v, rv, rfl, hnb⟩
  clear HS1
  obtain ⟨bl, ol, cl, rfl, -⟩ := tm_ownV hnb.r.op (i := 0) (by rw [hnb.r.len, stackS_len]; omega)
  rw [show rv.length = S from by rw [hnb.r.len, stackS_len]] at hnb ⊢
  have HB0 : Hid (Below w.heap.size w w0) := bthen HB3.out hnb.bel
  have HCELL : Hid (∀ s q wr, s < S → q < P → Below w0.heap.size w0 wr → ∃ br fr cr, wr.cell? ⟨bl, ol + s, none⟩ = some (.slice (some ⟨br, fr, none⟩) P cr) ∧ wr.cell? ⟨br, fr + q, none⟩ = some (.int .i64 ((placeV c S s q : Nat) : Int))) := fun s q wr h1 h2 hb => stack_cell hnb hb h1 h2
  clear hnb HB3
  go_wp2
  go_loopw [11, 57] (fun u i wr => ∃ k : Nat, k ≤ P ∧ i = .int .i64 k ∧ Hid (PU w0 wr u (numRow (min c (k * S)) nf))) (fun _ i _ => P - (intOf i).toNat)
  case atStart => exact ⟨0, by omega, rfl, by show PU _ _ _ _; rw [Nat.zero_mul, Nat.min_eq_right (by omega)]; exact PU.start w0⟩
  case round =>
    obtain ⟨k, hk, rfl, HX⟩ := hrel
    by_cases hlt : k < P
    · have kd : (k : Int) < (P : Int) := by omega
      have k0 : (0 : Int) ≤ (k : Int) := by omega
      have xk : IntKind.i64.wrap ((k : Int) + 1) = (k : Int) + 1 := IntWalk.i64_in _ (by omega)
      go_wp2
      go_loopw [11, 62] (fun u j wr => ∃ s : Nat, s ≤ S ∧ j = .int .i64 s ∧ Hid (PU w0 wr u (numRow (min c (k * S + s)) nf))) (fun _ j _ => S - (intOf j).toNat)
      case atStart => exact ⟨0, by omega, rfl, HX.out⟩
      case round =>
        clear HX
        obtain ⟨s, hs, rfl, HPU⟩ := hrel
        obtain ⟨w4, rfl⟩ : ∃ w4 : World, w4 = wr := ⟨_, rfl⟩
        obtain ⟨u, rfl⟩ : ∃ u : Value, u = u11 := ⟨_, rfl⟩
        by_cases hst : s < S
        · have sd : (s : Int) < (S : Int) := by omega
          have s0 : (0 : Int) ≤ (s : Int) := by omega
          have xs : IntKind.i64.wrap ((s : Int) + 1) = (s : Int) + 1 := IntWalk.i64_in _ (by omega)
          obtain ⟨br, fr, cr, r1, r2⟩ := HCELL.out s k w4 hst hlt HPU.out.bel
          obtain ⟨m, hm⟩ : ∃ m, m = k * S := ⟨_, rfl⟩
          by_cases hz : m + s < c
          · have hpv : placeV c S s k = m + s + 1 := by unfold placeV; rw [← hm, if_neg (by omega)]
            rw [hpv] at r2
            have HNR : Hid (numRow (min c (k * S + (s + 1))) nf = numRow (min c (k * S + s)) nf ++ [⟨((m + s + 1 : Nat) : Int), false⟩]) := by
              show _ = _
              rw [← hm, Nat.min_eq_right (by omega), Nat.min_eq_right (by omega), ← Nat.add_assoc, numRow_succ]
              rfl
            have HNL : Hid ((numRow (min c (k * S + s)) nf).length ≤ 200) := by show _ ≤ _; rw [numRow_len]; omega
            obtain ⟨l0, hl0⟩ : ∃ l0, l0 = numRow (min c (k * S + s)) nf := ⟨_, rfl⟩
            rw [← hl0] at HPU HNR HNL
            obtain ⟨n, hn⟩ : ∃ n, n = m + s + 1 := ⟨_, rfl⟩
            rw [← hn] at r2 HNR
            have n1 : 1 ≤ n := by omega
            have n2 : n ≤ 200 := by omega
            have n0 : ¬ (n = 0) := by omega
            have nb : ((n : Int) == 0) = false := by rw [beq_eq_false_iff_ne]; omega
            have ki : ¬ (P ≤ k) := by omega
            have hdl := decDigits_len3 n (by omega)
            have HNU : Hid (∀ W, TabP W → Calls Tryz.prog 7 #[.int .i64 n, .int .i64 d] W fun e w' => e = .returned (.tuple #[.string (strB (numV n d)), .int .i64 0]) ∧ Below W.heap.size W w') := fun W h => number_any n d W (by omega) (by omega) hdl.1 (by omega) h
            have HVE : Hid (∀ W, TabP W → Calls Tryz.prog 8 #[.string (strB (numV n d))] W fun e w' => e = .returned (.tuple #[.int .i64 n, .int .i64 0]) ∧ Below W.heap.size W w') := fun W h => verify_any n d W (by omega) (by omega) hdl.1 (by omega) h
            obtain ⟨z, hz⟩ : ∃ z, z = strB (numV n d) := ⟨_, rfl⟩
            rw [← hz] at HNU HVE
            have HB4 : Hid (Below w.heap.size w w4) := bthen HB0.out HPU.out.bel
            have R2 := Lib.hid r2
            clear hm hl0 hn hz hdl hpv
            go_wp2_with fail
            refine (HNU.out _ (HT.out.below HB4.out)).mono ?_
            rintro e w5 ⟨rfl, hb5⟩
            have HB5 := Lib.hid (bthen HB4.out hb5)
            have HB45 := Lib.hid hb5
            clear hb5 r1 r2
            go_wp2_with fail
            refine (HVE.out _ (HT.out.below HB5.out)).mono ?_
            rintro e w6 ⟨rfl, hb6⟩
            have HB46 := Lib.hid (bthen HB45.out hb6)
            clear hb6
            have r2 : w6.cell? ⟨br, fr + k, none⟩ = some (.int .i64 (n : Int)) := keepCell HB46.out R2.out
            have HU6 : Hid (PU w0 (w6.alloc (.cells #[.int .i64 (n : Int), .bool false] 35)) u l0) := (HPU.out.below HB46.out).below (balloc (Below.refl _ w6) _)
            have HNEW : Hid (∀ (j : Nat) (u : Value), (encPt ⟨(n : Int), false⟩)[j]? = some u → (w6.alloc (.cells #[.int .i64 (n : Int), .bool false] 35)).cell? ((⟨w6.heap.size, 0, none⟩ : Addr).add j) = some u) := World.news_of_block (cs := #[.int .i64 (n : Int), .bool false]) (t := 35) (fr := (0, 0)) (heap_alloc_new w6 _)
            clear HPU HNU HVE HB4 HB5 HB45 HB46 R2
            go_wp2_with (at_builtin; refine wpList_appAt rfl (.tmp 105) (.tmp 108) 29 rfl elemPtT Tryz.underlying29 w0.heap.size u l0 encPt rfl HU6.out.ou ⟨(n : Int), false⟩ ⟨w6.heap.size, 0, none⟩ 1 rfl rfl HNEW.out ?c1 ?c2 ?c3 ?c4 ?_)
            case c1 => simp [encPt, Value.oneCell']
            case c2 => have := HNL.out; omega
            case c3 => have := HNL.out; unfold maxLen; omega
            case c4 => have := HU6.out.bel.size; simpa using this
            intro u7 w7 hown7 hg7 hat7
            obtain ⟨l7, hl7⟩ : ∃ l7, l7 = l0 ++ [(⟨(n : Int), false⟩ : Pt)] := ⟨_, rfl⟩
            rw [← hl7] at hown7 HNR
            have HU7 : Hid (PU w0 w7 u7 (numRow (min c (k * S + (s + 1))) nf)) := by
              show PU _ _ _ _
              rw [HNR.out]
              exact HU6.out.addU hown7 hg7
            clear hown7 hg7 hat7 hl7 HU6 HNEW r2
            go_wp2
            go_roundw
            case rel => exact ⟨s + 1, by omega, by go_num, HU7⟩
            case measure => simp [intOf]; omega
          · have hpv : placeV c S s k = 0 := by unfold placeV; rw [← hm, if_pos (by omega)]
            rw [hpv] at r2
            have r2' : w4.cell? ⟨br, fr + k, none⟩ = some (.int .i64 0) := r2
            have HU7 : Hid (PU w0 w4 u (numRow (min c (k * S + (s + 1))) nf)) := by
              have h := HPU.out
              rw [← hm, Nat.min_eq_left (by omega)] at h
              show PU _ _ _ _
              rw [← hm, Nat.min_eq_left (by omega)]
              exact h
            clear hm hpv HPU r2
            go_wp2
            clear r1 r2'
            go_wp2
            go_roundw
            case rel => exact ⟨s + 1, by omega, by go_num, HU7⟩
            case measure => simp [intOf]; omega
        · obtain rfl : S = s := by omega
          have HU7 : Hid (PU w0 w4 u (numRow (min c ((k + 1) * S)) nf)) := by
            have h := HPU.out
            show PU _ _ _ _
            rw [Nat.succ_mul]
            exact h
          clear HPU
          go_wp2
          go_roundw
          case rel => exact ⟨k + 1, by omega, by go_num, HU7⟩
          case measure => simp [intOf]; omega
    · obtain rfl : P = k := by omega
      obtain ⟨w4, rfl⟩ : ∃ w4 : World, w4 = wr := ⟨_, rfl⟩
      obtain ⟨u, rfl⟩ : ∃ u : Value, u = u11 := ⟨_, rfl⟩
      have hou := HX.out.ou
      rw [Nat.min_eq_left (by omega)] at hou
      obtain ⟨ou, cu, rfl, -, hfu⟩ := hou.flat (fun _ => rfl)
      rw [numRow_len]
      have HB4 : Hid (Below w.heap.size w w4) := bthen HB0.out HX.out.bel
      have HR := Lib.hid (two_run w4 c (by omega) ou cu hfu)
      have hmk := run_make2 elemPtT Tryz.underlying29 (.int .i64 0) (.bool false) rfl c (by omega) (by omega)
      clear HX hou hfu HCELL HT
      go_wp2_with fail
      refine HR.out.mono ?_
      rintro e w5 h
      obtain ⟨cc, og, cg, op, cp, o0, c0, o1, c1, o2, c2, o3, c3, Z, rfl, hog, h2, h3, hb⟩ := two_ret (by omega) h
      have HB5 : Hid (Below w.heap.size w w5) := bthen (bthen HB4.out (twoW_below w4 c ou cu)) hb
      have HCL : Hid (∀ i v, (repC og c cg op cp o0 0 c0 cc 2 o1 c1 o2 c2 o3 c3)[i]? = some v → (w5.alloc (.cells (repC og c cg op cp o0 0 c0 cc 2 o1 c1 o2 c2 o3 c3) 37)).cell? ⟨w5.heap.size, i, none⟩ = some v) := fun i v hv => by
        rw [cell_of_row _ w5.heap.size i _ _ (0, 0) (heap_alloc_new w5 _)]
        exact hv
      have HB56 : Hid (Below w5.heap.size w5 (w5.alloc (.cells (repC og c cg op cp o0 0 c0 cc 2 o1 c1 o2 c2 o3 c3) 37))) := balloc (Below.refl _ _) _
      have HSZ : Hid ((w5.alloc (.cells (repC og c cg op cp o0 0 c0 cc 2 o1 c1 o2 c2 o3 c3) 37)).heap.size = w5.heap.size + 1) := World.size_alloc _ _
      obtain ⟨b2, f2, rfl, x2, y2⟩ := own_two (h2.below HB56.out)
      obtain ⟨b3, f3, rfl, x3, y3⟩ := own_two (h3.below HB56.out)
      obtain ⟨bg, fg, rfl, -⟩ := own_cellI hog (i := 0) (by rw [upTo_len']; omega)
      have HG : Hid (∀ i wr, i < c → Below w5.heap.size w5 wr → wr.cell? ⟨bg, fg + i, none⟩ = some (.int .i64 ((i : Int) + 1))) := fun i wr hi hb => by
        obtain ⟨b', o', e', h'⟩ := own_cellI (hog.below hb) (i := i) (by rw [upTo_len']; exact hi)
        simp only [Option.some.injEq, Addr.mk.injEq, and_true] at e'
        obtain ⟨rfl, rfl⟩ := e'
        rw [h']
        simp [upTo]
      have HB6 := Lib.hid (bthen HB5.out HB56.out)
      have cb : ((c : Int) != (c : Int)) = false := by simp
      clear HR hmk h hog h2 h3 hb HB4 HB5
      go_wp2
      generalize w5.alloc (.cells (repC (some ⟨bg, fg, none⟩) c cg op cp o0 0 c0 cc 2 o1 c1 (some ⟨b2, f2, none⟩) c2 (some ⟨b3, f3, none⟩) c3) 37) = w6 at *
      generalize hrb : w5.heap.size = rb at *
      have HRB := Lib.hid hrb
      clear hrb
      have r0 := HCL.out 0 _ rfl
      have r2 := HCL.out 2 _ rfl
      have r5 := HCL.out 5 _ rfl
      have r6 := HCL.out 6 _ rfl
      have hrl : rb < w6.heap.size := by have := HSZ.out; omega
      go_quiet (fail)
      have R0 : Hid (∀ q, (w6.drewN q).cell? ⟨rb, 0, none⟩ = some (.slice (some ⟨bg, fg, none⟩) c cg)) := fun q => keepCell (bdrewN (Below.refl _ _) q) (HCL.out 0 _ rfl)
      clear r0 r2 r5 r6 x2 y2 x3 y3
      have r0 := R0.out nq
      go_wp2
      go_loopw [167] (fun i wr => ∃ j : Nat, j ≤ c ∧ i = .int .i64 j ∧ Hid (∃ q, wr = w6.drewN q)) (fun i _ => c - (intOf i).toNat)
      case atStart => exact ⟨0, by omega, rfl, nq, rfl⟩
      case round =>
        clear r0
        obtain ⟨i, hi, rfl, HQ⟩ := hrel
        obtain ⟨q, rfl⟩ := HQ.out
        by_cases hit : i < c
        · have id : (i : Int) < (c : Int) := by omega
          have i0 : (0 : Int) ≤ (i : Int) := by omega
          have xi : IntKind.i64.wrap ((i : Int) + 1) = (i : Int) + 1 := IntWalk.i64_in _ (by omega)
          have hb : Below rb w5 (w6.drewN q) := HB56.out.trans ((bdrewN (Below.refl w6.heap.size w6) q).mono (by omega))
          have g0 := HG.out i _ hit hb
          have ii : (((i : Int) + 1) != ((i : Int) + 1)) = false := by simp
          clear hb
          go_wp2
          go_roundw
          case rel => exact ⟨i + 1, by omega, by go_num, HQ⟩
          case measure => simp [intOf]; omega
        · obtain rfl : c = i := by omega
          go_wp2
          go_ret
          exact ⟨rfl, HB6.out.trans ((bdrewN (Below.refl _ w6) q).mono HB6.out.size)⟩
end Go.Proofs.YtcpjpmijfjdifaaGreatDoor
