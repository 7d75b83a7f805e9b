/-
  The walk of SpoolCrashArrives where all areas are there. Own text; printed by gen_arrive.py.
-/
import Derived.Test.YtnnnihjagjfkdaaDoorArrive
namespace Go.Proofs.YtnnnihjagjfkdaaDoor
open Go.RowKit
set_option linter.unusedVariables false
set_option maxRecDepth 100000 in
set_option maxHeartbeats 8000000 in
theorem arrive_yes (x y : ByteArray) (oa : Option Addr) (l : List Wr) (c : Nat) (bytes : Int) (w : World) (hl : Flat w 2 encWr oa l) (hm : l.length ≤ 1048576) (hgood : l.all okArea = true) (hsz : x.size + y.size + sizeW l ≤ 2000000) (hby : i64ok bytes) (ht : Tabs w) :
    Calls Tryd.prog 3 #[.agg #[.string x, .string y], .slice oa l.length c, .int .i64 bytes] w (RetYes w) := by
  have HG := Lib.hid hgood
  have hx0 : x.data.toList.length = x.size := by simp
  have hy0 : y.data.toList.length = y.size := by simp
  obtain ⟨s0, hs0⟩ : ∃ s0 : Arv, s0 = ⟨bytes.toNat, x.data.toList, y.data.toList⟩ := ⟨_, rfl⟩
  have HLEN : Hid (∀ k, k ≤ l.length → (arvV s0 (l.take k)).a.length + (arvV s0 (l.take k)).b.length ≤ 2000000) := fun k hk => by
    have h1 := arvV_len s0 l k hk
    have h2 := sizeW_le l k
    rw [hs0] at h1
    rw [hs0]
    simp only at h1
    omega
  obtain ⟨fa, hfa⟩ : ∃ fa, fa = strB (arvV s0 l).a := ⟨_, rfl⟩
  obtain ⟨fb, hfb⟩ : ∃ fb, fb = strB (arvV s0 l).b := ⟨_, rfl⟩
  have HFA := Lib.hid (And.intro hfa hfb)
  have HX0 : Hid (strB s0.a = x ∧ strB s0.b = y ∧ s0.left = bytes.toNat) := by rw [hs0]; exact ⟨strB_eq x, strB_eq y, rfl⟩
  obtain ⟨by1, by2⟩ := hby
  have hb0 := balloc (Below.refl _ w) (.cells #[.string x, .string y] 23)
  have hd0 := DiskAt.new w x y 23
  obtain ⟨W1, hW1⟩ : ∃ W1, W1 = w.alloc (.cells #[.string x, .string y] 23) := ⟨_, rfl⟩
  have hs1 : W1.heap.size = w.heap.size + 1 := by rw [hW1]; exact World.size_alloc _ _
  rw [← hW1] at hb0 hd0
  have HQU := Lib.hid (queues4_any W1 (ht.below hb0))
  have HCR : Hid (∀ W, Below w.heap.size w W → Calls Tryd.prog 7 #[.agg #[.string x, .string y], .slice oa l.length c, .int .i64 bytes] W (RetDisk fa fb 0 W)) := fun W hb => by
    rw [hfa, hfb, hs0]
    exact crash_yes x y oa l c bytes W (hl.below hb) hm hgood hsz ⟨by1, by2⟩
  have HL := Lib.hid hl
  have HW1 := Lib.hid hW1
  have HB0 := Lib.hid hb0
  have HD0 := Lib.hid hd0
  obtain ⟨n, hn⟩ : ∃ n, n = l.length := ⟨_, rfl⟩
  have HN := Lib.hid hn
  rw [← hn] at HCR
  rw [← hn]
  rw [← hn] at hm HLEN
  clear hl hgood hn hW1 hb0 hd0 ht hs0 hfa hfb hx0 hy0 hsz
  go_enter Tryd.func3, Tryd.ntmps3
  go_wp2_with fail
  rw [← HW1.out]
  refine HQU.out.mono ?_
  rintro e w2 ⟨rfl, hb2⟩
  have HB2' := Lib.hid (bthen HB0.out hb2)
  have HD2 := Lib.hid (HD0.out.below hb2 (by omega))
  have hz2 := hb2.size
  have d0 : w2.cell? ⟨w.heap.size, 0, none⟩ = some (.string x) := HD2.out.at' 0 (by omega)
  have d1 : w2.cell? ⟨w.heap.size, 1, none⟩ = some (.string y) := HD2.out.at' 1 (by omega)
  clear hb2 HQU HD0 HB0
  go_wp2_with fail
  refine (HCR.out _ HB2'.out).mono ?_
  rintro e w3 ⟨rfl, hb3⟩
  have HB3 := Lib.hid (bthen HB2'.out hb3)
  have HD3 := Lib.hid (HD2.out.below hb3 (by omega))
  have hz3 := hb3.size
  have k0 : w3.cell? ⟨w.heap.size, 0, none⟩ = some (.string x) := HD3.out.at' 0 (by omega)
  have k1 : w3.cell? ⟨w.heap.size, 1, none⟩ = some (.string y) := HD3.out.at' 1 (by omega)
  have hlt3 : w.heap.size < w3.heap.size := by omega
  clear hb3 d0 d1 HD2 HCR
  go_upto_region 5 with fail
  have HBE := Lib.hid (balloc (balloc HB3.out (.cells #[.string fa, .string fb] 23)) (.cells #[.string x, .string y] 23))
  have HDC := Lib.hid ((DiskAt.new w3 fa fb 23).alloc (by simp) (.cells #[.string x, .string y] 23))
  have HDW0 := DiskAt.new (w3.alloc (.cells #[.string fa, .string fb] 23)) x y 23
  rw [World.size_alloc] at HDW0
  have HDW := Lib.hid HDW0
  clear HDW0
  have hz4 : w3.heap.size + 1 < ((w3.alloc (.cells #[.string fa, .string fb] 23)).alloc (.cells #[.string x, .string y] 23)).heap.size := by simp
  generalize (w3.alloc (.cells #[.string fa, .string fb] 23)).alloc (.cells #[.string x, .string y] 23) = w4 at *
  generalize w3.heap.size = bc at *
  clear k0 k1 HD3 HB3 HB2'
  go_wp2
  go_loopw [28] (fun i wr => ∃ k : Nat, k ≤ n ∧ i = .int .i64 k ∧ Hid (Below w.heap.size w wr ∧ DiskAt wr bc fa fb ∧ DiskAt wr (bc + 1) x y) ∧ bc + 1 < wr.heap.size) (fun i _ => n - (intOf i).toNat)
  case atStart => exact ⟨0, by omega, rfl, ⟨HBE.out, HDC.out, HDW.out⟩, hz4⟩
  case round =>
    clear HBE HDC HDW hz4
    obtain ⟨k, hk, rfl, HR, hz⟩ := hrel
    by_cases hkn : k < n
    · have hkl : k < l.length := by have := HN.out; omega
      have kd : (k : Int) < (n : Int) := by omega
      have k0 : (0 : Int) ≤ (k : Int) := by omega
      obtain ⟨bw, offw, rfl, i0, i1⟩ := (HL.out.below HR.out.1).wr hkl
      obtain ⟨z, hzz⟩ : ∃ z, z = l[k] := ⟨_, rfl⟩
      rw [← hzz] at i0 i1
      have hbw := cell?_lt i0
      simp only at hbw
      have ho : okArea z = true := by rw [hzz]; exact all_at HG.out hkl
      clear hzz
      have HNX := Lib.hid (And.intro (balloc HR.out.1 (.cells #[.int .i64 z.area, .string z.data] 30)) (And.intro (FTab.alloc HR.out.2.1 (by omega) (.cells #[.int .i64 z.area, .string z.data] 30)) (FTab.alloc HR.out.2.2 (by omega) (.cells #[.int .i64 z.area, .string z.data] 30))))
      rcases okArea_yes ho with ha | ha
      · have e1 : (z.area != 0) = false := by simp [ha]
        clear ha ho
        go_wp2
        go_roundw
        case rel => exact ⟨k + 1, by omega, by go_num, HNX, by simp; omega⟩
        case measure => simp [intOf]; omega
      · have e1 : (z.area != 0) = true := by simp [ha]
        have e2 : (z.area != 1) = false := by simp [ha]
        clear ha ho
        go_wp2
        go_roundw
        case rel => exact ⟨k + 1, by omega, by go_num, HNX, by simp; omega⟩
        case measure => simp [intOf]; omega
    · obtain rfl : n = k := by omega
      clear hkn
      go_upto_region 12 with fail
      rw [show max bytes 0 = (bytes.toNat : Int) from by omega]
      obtain ⟨m0, hm0⟩ : ∃ m0, m0 = bytes.toNat := ⟨_, rfl⟩
      have hm9 : m0 ≤ 9223372036854775807 := by omega
      rw [← hm0]
      have HM0 : Hid (m0 = (arvV s0 (l.take 0)).left) := by show m0 = s0.left; rw [HX0.out.2.2]; exact hm0
      have HDW : Hid (DiskL wr (bc + 1) (arvV s0 (l.take 0))) := by show DiskAt wr (bc + 1) (strB s0.a) (strB s0.b); rw [HX0.out.1, HX0.out.2.1]; exact HR.out.2.2
      clear hm0 by1 by2
      go_wp2
      go_loopw [12, 15, 52] (fun v _ i wr => ∃ (k m : Nat), k ≤ n ∧ v = .int .i64 m ∧ i = .int .i64 k ∧ Hid (m = (arvV s0 (l.take k)).left ∧ m ≤ 9223372036854775807) ∧ Hid (Below w.heap.size w wr ∧ DiskAt wr bc fa fb ∧ DiskL wr (bc + 1) (arvV s0 (l.take k))) ∧ bc + 1 < wr.heap.size) (fun _ _ i _ => n - (intOf i).toNat)
      case atStart => exact ⟨0, m0, by omega, rfl, rfl, ⟨HM0.out, hm9⟩, ⟨HR.out.1, HR.out.2.1, HDW.out⟩, hz⟩
      case round =>
        clear HR hz HM0 HDW hm9
        obtain ⟨k, m, hk, rfl, rfl, HU, HR, hz⟩ := hrel
        have hm9 := HU.out.2
        by_cases hkn : k < n
        · have hkl : k < l.length := by have := HN.out; omega
          have kd : (k : Int) < (n : Int) := by omega
          have k0 : (0 : Int) ≤ (k : Int) := by omega
          obtain ⟨bw, offw, rfl, i0, i1⟩ := (HL.out.below HR.out.1).wr hkl
          obtain ⟨z, hzz⟩ : ∃ z, z = l[k] := ⟨_, rfl⟩
          rw [← hzz] at i0 i1
          have hbw := cell?_lt i0
          simp only at hbw
          have ho : okArea z = true := by rw [hzz]; exact all_at HG.out hkl
          obtain ⟨s1, hs1⟩ : ∃ s1, s1 = arvV s0 (l.take k) := ⟨_, rfl⟩
          have HS2 : Hid (arvV s0 (l.take (k + 1)) = arvStep s1 z) := by rw [hs1, hzz]; exact arvV_succ s0 hkl
          have HL1 : Hid (s1.a.length + s1.b.length ≤ 2000000) := by show _ ≤ _; rw [hs1]; exact HLEN.out k (by omega)
          have HL2 : Hid ((arvStep s1 z).a.length + (arvStep s1 z).b.length ≤ 2000000) := by show _ ≤ _; rw [← HS2.out]; exact HLEN.out (k + 1) (by omega)
          rw [← hs1] at HU HR
          have HM : Hid (m = s1.left) := HU.out.1
          have HNX := Lib.hid (And.intro (balloc HR.out.1 (.cells #[.int .i64 z.area, .string z.data] 30)) (And.intro (FTab.alloc HR.out.2.1 (by omega) (.cells #[.int .i64 z.area, .string z.data] 30)) (FTab.alloc HR.out.2.2 (by omega) (.cells #[.int .i64 z.area, .string z.data] 30))))
          clear hzz hs1
          go_upto_region 15 with fail
          by_cases hc : m < z.data.size
          · have hcI : (m : Int) < (z.data.size : Int) := by omega
            have hex : (z.data.extract 0 m).size = m := by rw [extractL_size z.data 0 m (by omega)]; rfl
            have HUN : Hid (0 = (arvV s0 (l.take (k + 1))).left ∧ 0 ≤ 9223372036854775807) := ⟨by rw [HS2.out]; show 0 = s1.left - min s1.left z.data.size; have := HM.out; omega, by omega⟩
            rcases okArea_yes ho with ha | ha
            · have e3 : (z.area == 0) = true := by simp [ha]
              have HA := Lib.hid ha
              clear ha ho
              have c0 : (wr.alloc (.cells #[.int .i64 z.area, .string z.data] 30)).cell? ⟨bc + 1, 0, none⟩ = some (.string (strB s1.a)) := HNX.out.2.2.at' 0 (by omega)
              have cf := HNX.out.2.2.fz 0
              have zsz : bc + 1 < (wr.alloc (.cells #[.int .i64 z.area, .string z.data] 30)).heap.size := by rw [World.size_alloc]; omega
              have d0 : (wr.alloc (.cells #[.int .i64 z.area, .string z.data] 30)).cell? ⟨wr.heap.size, 0, none⟩ = some (.int .i64 z.area) := by rw [cell_of_row _ wr.heap.size 0 _ _ (0, 0) (heap_alloc_new wr _)]; rfl
              have d1 : (wr.alloc (.cells #[.int .i64 z.area, .string z.data] 30)).cell? ⟨wr.heap.size, 1, none⟩ = some (.string z.data) := by rw [cell_of_row _ wr.heap.size 1 _ _ (0, 0) (heap_alloc_new wr _)]; rfl
              have hne : wr.heap.size ≠ bc + 1 := by omega
              generalize wr.alloc (.cells #[.int .i64 z.area, .string z.data] 30) = w5 at *
              obtain ⟨X, hX⟩ : ∃ X, X = strB s1.a := ⟨_, rfl⟩
              have hA1 : X.size ≤ 2000000 := by rw [hX, strB_size]; have := HL1.out; omega
              have hp : (z.data.extract 0 m).data.toList = z.data.data.toList.take (min s1.left z.data.size) := by
                rw [extractL, ← HM.out, Nat.min_eq_left (by omega)]; rfl
              have hE : X ++ z.data.extract 0 m = strB (arvStep s1 z).a ∧ (arvStep s1 z).b = s1.b := by
                constructor
                · have e : (arvStep s1 z).a = s1.a ++ z.data.data.toList.take (min s1.left z.data.size) := by unfold arvStep; exact if_pos HA.out
                  rw [e, ← hp, ← strB_app, strB_eq, hX]
                · unfold arvStep; exact if_pos HA.out
              have hps : (z.data.extract 0 m).size ≤ 2000000 := by
                have h1 := HL2.out
                have h2 := congrArg ByteArray.size hE.1
                rw [strB_size, ByteArray.size_append] at h2
                omega
              rw [← hX] at c0
              have HFIN : Hid (Below w.heap.size w (w5.setCell ⟨bc + 1, 0, none⟩ (.string (X ++ z.data.extract 0 m))) ∧ DiskAt (w5.setCell ⟨bc + 1, 0, none⟩ (.string (X ++ z.data.extract 0 m))) bc fa fb ∧ DiskL (w5.setCell ⟨bc + 1, 0, none⟩ (.string (X ++ z.data.extract 0 m))) (bc + 1) (arvV s0 (l.take (k + 1)))) := by
                refine ⟨HNX.out.1.setCell (p := ⟨bc + 1, 0, none⟩) (by show w.heap.size ≤ bc + 1; omega) _, FTab.other HNX.out.2.1 (by omega) _, ?_⟩
                rw [HS2.out]
                refine (FTab.set HNX.out.2.2 (i := 0) (by omega) (X ++ z.data.extract 0 m)).congr fun i hi => ?_
                rw [hE.1]
                match i, hi with
                | 0, _ => rfl
                | 1, _ => show strB s1.b = strB (arvStep s1 z).b; rw [hE.2]
              clear hX hp hE HNX HR
              go_wp2
              go_roundw
              case rel => exact ⟨k + 1, 0, by omega, by simp, by go_num, HUN, HFIN, by simpa using zsz⟩
              case measure => simp [intOf]; omega
            · have e3 : (z.area == 0) = false := by simp [ha]
              have HA := Lib.hid ha
              clear ha ho
              have c0 : (wr.alloc (.cells #[.int .i64 z.area, .string z.data] 30)).cell? ⟨bc + 1, 1, none⟩ = some (.string (strB s1.b)) := HNX.out.2.2.at' 1 (by omega)
              have cf := HNX.out.2.2.fz 1
              have zsz : bc + 1 < (wr.alloc (.cells #[.int .i64 z.area, .string z.data] 30)).heap.size := by rw [World.size_alloc]; omega
              have d0 : (wr.alloc (.cells #[.int .i64 z.area, .string z.data] 30)).cell? ⟨wr.heap.size, 0, none⟩ = some (.int .i64 z.area) := by rw [cell_of_row _ wr.heap.size 0 _ _ (0, 0) (heap_alloc_new wr _)]; rfl
              have d1 : (wr.alloc (.cells #[.int .i64 z.area, .string z.data] 30)).cell? ⟨wr.heap.size, 1, none⟩ = some (.string z.data) := by rw [cell_of_row _ wr.heap.size 1 _ _ (0, 0) (heap_alloc_new wr _)]; rfl
              have hne : wr.heap.size ≠ bc + 1 := by omega
              generalize wr.alloc (.cells #[.int .i64 z.area, .string z.data] 30) = w5 at *
              obtain ⟨X, hX⟩ : ∃ X, X = strB s1.b := ⟨_, rfl⟩
              have hA1 : X.size ≤ 2000000 := by rw [hX, strB_size]; have := HL1.out; omega
              have hp : (z.data.extract 0 m).data.toList = z.data.data.toList.take (min s1.left z.data.size) := by
                rw [extractL, ← HM.out, Nat.min_eq_left (by omega)]; rfl
              have hE : X ++ z.data.extract 0 m = strB (arvStep s1 z).b ∧ (arvStep s1 z).a = s1.a := by
                constructor
                · have e : (arvStep s1 z).b = s1.b ++ z.data.data.toList.take (min s1.left z.data.size) := by unfold arvStep; exact if_neg (by rw [HA.out]; omega)
                  rw [e, ← hp, ← strB_app, strB_eq, hX]
                · unfold arvStep; exact if_neg (by rw [HA.out]; omega)
              have hps : (z.data.extract 0 m).size ≤ 2000000 := by
                have h1 := HL2.out
                have h2 := congrArg ByteArray.size hE.1
                rw [strB_size, ByteArray.size_append] at h2
                omega
              rw [← hX] at c0
              have HFIN : Hid (Below w.heap.size w (w5.setCell ⟨bc + 1, 1, none⟩ (.string (X ++ z.data.extract 0 m))) ∧ DiskAt (w5.setCell ⟨bc + 1, 1, none⟩ (.string (X ++ z.data.extract 0 m))) bc fa fb ∧ DiskL (w5.setCell ⟨bc + 1, 1, none⟩ (.string (X ++ z.data.extract 0 m))) (bc + 1) (arvV s0 (l.take (k + 1)))) := by
                refine ⟨HNX.out.1.setCell (p := ⟨bc + 1, 1, none⟩) (by show w.heap.size ≤ bc + 1; omega) _, FTab.other HNX.out.2.1 (by omega) _, ?_⟩
                rw [HS2.out]
                refine (FTab.set HNX.out.2.2 (i := 1) (by omega) (X ++ z.data.extract 0 m)).congr fun i hi => ?_
                rw [hE.1]
                match i, hi with
                | 0, _ => show strB s1.a = strB (arvStep s1 z).a; rw [hE.2]
                | 1, _ => rfl
              clear hX hp hE HNX HR
              go_wp2
              go_roundw
              case rel => exact ⟨k + 1, 0, by omega, by simp, by go_num, HUN, HFIN, by simpa using zsz⟩
              case measure => simp [intOf]; omega
          · have hcI : ¬ (m : Int) < (z.data.size : Int) := by omega
            have HUN : Hid (m - z.data.size = (arvV s0 (l.take (k + 1))).left ∧ m - z.data.size ≤ 9223372036854775807) := ⟨by rw [HS2.out]; show _ = s1.left - min s1.left z.data.size; have := HM.out; omega, by omega⟩
            have ecast : ((m - z.data.size : Nat) : Int) = (m : Int) - (z.data.size : Int) := by omega
            have HEC := Lib.hid ecast
            clear ecast
            rcases okArea_yes ho with ha | ha
            · have e3 : (z.area == 0) = true := by simp [ha]
              have HA := Lib.hid ha
              clear ha ho
              have c0 : (wr.alloc (.cells #[.int .i64 z.area, .string z.data] 30)).cell? ⟨bc + 1, 0, none⟩ = some (.string (strB s1.a)) := HNX.out.2.2.at' 0 (by omega)
              have cf := HNX.out.2.2.fz 0
              have zsz : bc + 1 < (wr.alloc (.cells #[.int .i64 z.area, .string z.data] 30)).heap.size := by rw [World.size_alloc]; omega
              have d0 : (wr.alloc (.cells #[.int .i64 z.area, .string z.data] 30)).cell? ⟨wr.heap.size, 0, none⟩ = some (.int .i64 z.area) := by rw [cell_of_row _ wr.heap.size 0 _ _ (0, 0) (heap_alloc_new wr _)]; rfl
              have d1 : (wr.alloc (.cells #[.int .i64 z.area, .string z.data] 30)).cell? ⟨wr.heap.size, 1, none⟩ = some (.string z.data) := by rw [cell_of_row _ wr.heap.size 1 _ _ (0, 0) (heap_alloc_new wr _)]; rfl
              have hne : wr.heap.size ≠ bc + 1 := by omega
              generalize wr.alloc (.cells #[.int .i64 z.area, .string z.data] 30) = w5 at *
              obtain ⟨X, hX⟩ : ∃ X, X = strB s1.a := ⟨_, rfl⟩
              have hA1 : X.size ≤ 2000000 := by rw [hX, strB_size]; have := HL1.out; omega
              have hp : (z.data).data.toList = z.data.data.toList.take (min s1.left z.data.size) := by
                rw [← HM.out, Nat.min_eq_right (by omega), List.take_of_length_le (by simp)]
              have hE : X ++ z.data = strB (arvStep s1 z).a ∧ (arvStep s1 z).b = s1.b := by
                constructor
                · have e : (arvStep s1 z).a = s1.a ++ z.data.data.toList.take (min s1.left z.data.size) := by unfold arvStep; exact if_pos HA.out
                  rw [e, ← hp, ← strB_app, strB_eq, hX]
                · unfold arvStep; exact if_pos HA.out
              have hps : (z.data).size ≤ 2000000 := by
                have h1 := HL2.out
                have h2 := congrArg ByteArray.size hE.1
                rw [strB_size, ByteArray.size_append] at h2
                omega
              rw [← hX] at c0
              have HFIN : Hid (Below w.heap.size w (w5.setCell ⟨bc + 1, 0, none⟩ (.string (X ++ z.data))) ∧ DiskAt (w5.setCell ⟨bc + 1, 0, none⟩ (.string (X ++ z.data))) bc fa fb ∧ DiskL (w5.setCell ⟨bc + 1, 0, none⟩ (.string (X ++ z.data))) (bc + 1) (arvV s0 (l.take (k + 1)))) := by
                refine ⟨HNX.out.1.setCell (p := ⟨bc + 1, 0, none⟩) (by show w.heap.size ≤ bc + 1; omega) _, FTab.other HNX.out.2.1 (by omega) _, ?_⟩
                rw [HS2.out]
                refine (FTab.set HNX.out.2.2 (i := 0) (by omega) (X ++ z.data)).congr fun i hi => ?_
                rw [hE.1]
                match i, hi with
                | 0, _ => rfl
                | 1, _ => show strB s1.b = strB (arvStep s1 z).b; rw [hE.2]
              clear hX hp hE HNX HR
              go_wp2
              go_roundw
              case rel => exact ⟨k + 1, m - z.data.size, by omega, by rw [HEC.out], by go_num, HUN, HFIN, by simpa using zsz⟩
              case measure => simp [intOf]; omega
            · have e3 : (z.area == 0) = false := by simp [ha]
              have HA := Lib.hid ha
              clear ha ho
              have c0 : (wr.alloc (.cells #[.int .i64 z.area, .string z.data] 30)).cell? ⟨bc + 1, 1, none⟩ = some (.string (strB s1.b)) := HNX.out.2.2.at' 1 (by omega)
              have cf := HNX.out.2.2.fz 1
              have zsz : bc + 1 < (wr.alloc (.cells #[.int .i64 z.area, .string z.data] 30)).heap.size := by rw [World.size_alloc]; omega
              have d0 : (wr.alloc (.cells #[.int .i64 z.area, .string z.data] 30)).cell? ⟨wr.heap.size, 0, none⟩ = some (.int .i64 z.area) := by rw [cell_of_row _ wr.heap.size 0 _ _ (0, 0) (heap_alloc_new wr _)]; rfl
              have d1 : (wr.alloc (.cells #[.int .i64 z.area, .string z.data] 30)).cell? ⟨wr.heap.size, 1, none⟩ = some (.string z.data) := by rw [cell_of_row _ wr.heap.size 1 _ _ (0, 0) (heap_alloc_new wr _)]; rfl
              have hne : wr.heap.size ≠ bc + 1 := by omega
              generalize wr.alloc (.cells #[.int .i64 z.area, .string z.data] 30) = w5 at *
              obtain ⟨X, hX⟩ : ∃ X, X = strB s1.b := ⟨_, rfl⟩
              have hA1 : X.size ≤ 2000000 := by rw [hX, strB_size]; have := HL1.out; omega
              have hp : (z.data).data.toList = z.data.data.toList.take (min s1.left z.data.size) := by
                rw [← HM.out, Nat.min_eq_right (by omega), List.take_of_length_le (by simp)]
              have hE : X ++ z.data = strB (arvStep s1 z).b ∧ (arvStep s1 z).a = s1.a := by
                constructor
                · have e : (arvStep s1 z).b = s1.b ++ z.data.data.toList.take (min s1.left z.data.size) := by unfold arvStep; exact if_neg (by rw [HA.out]; omega)
                  rw [e, ← hp, ← strB_app, strB_eq, hX]
                · unfold arvStep; exact if_neg (by rw [HA.out]; omega)
              have hps : (z.data).size ≤ 2000000 := by
                have h1 := HL2.out
                have h2 := congrArg ByteArray.size hE.1
                rw [strB_size, ByteArray.size_append] at h2
                omega
              rw [← hX] at c0
              have HFIN : Hid (Below w.heap.size w (w5.setCell ⟨bc + 1, 1, none⟩ (.string (X ++ z.data))) ∧ DiskAt (w5.setCell ⟨bc + 1, 1, none⟩ (.string (X ++ z.data))) bc fa fb ∧ DiskL (w5.setCell ⟨bc + 1, 1, none⟩ (.string (X ++ z.data))) (bc + 1) (arvV s0 (l.take (k + 1)))) := by
                refine ⟨HNX.out.1.setCell (p := ⟨bc + 1, 1, none⟩) (by show w.heap.size ≤ bc + 1; omega) _, FTab.other HNX.out.2.1 (by omega) _, ?_⟩
                rw [HS2.out]
                refine (FTab.set HNX.out.2.2 (i := 1) (by omega) (X ++ z.data)).congr fun i hi => ?_
                rw [hE.1]
                match i, hi with
                | 0, _ => show strB s1.a = strB (arvStep s1 z).a; rw [hE.2]
                | 1, _ => rfl
              clear hX hp hE HNX HR
              go_wp2
              go_roundw
              case rel => exact ⟨k + 1, m - z.data.size, by omega, by rw [HEC.out], by go_num, HUN, HFIN, by simpa using zsz⟩
              case measure => simp [intOf]; omega
        · obtain rfl : n = k := by omega
          clear hkn
          have c0 : wr.cell? ⟨bc, 0, none⟩ = some (.string fa) := HR.out.2.1.at' 0 (by omega)
          have c1 : wr.cell? ⟨bc, 1, none⟩ = some (.string fb) := HR.out.2.1.at' 1 (by omega)
          have htk : l.take n = l := List.take_of_length_le (by have := HN.out; omega)
          have d0 : wr.cell? ⟨bc + 1, 0, none⟩ = some (.string fa) := by have h := HR.out.2.2.at' 0 (by omega); rw [htk] at h; rw [HFA.out.1]; exact h
          have d1 : wr.cell? ⟨bc + 1, 1, none⟩ = some (.string fb) := by have h := HR.out.2.2.at' 1 (by omega); rw [htk] at h; rw [HFA.out.2]; exact h
          have HBF := Lib.hid HR.out.1
          clear htk HR HU
          go_wp2
          go_ret
          exact ⟨rfl, HBF.out⟩
end Go.Proofs.YtnnnihjagjfkdaaDoor
