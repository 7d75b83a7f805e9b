/-
  The walk of SpoolCrashArrives. Own text.
-/
import Derived.Test.YtnnnihjagjfkdaaDoorCrash
namespace Go.Proofs.YtnnnihjagjfkdaaDoor
open Go.RowKit
set_option linter.unusedVariables false
def RetYes (w : World) (e : Ending) (w' : World) : Prop := e = .returned (.bool true) ∧ Below w.heap.size w w'
set_option maxRecDepth 100000 in
set_option maxHeartbeats 4000000 in
theorem arrive_no (x y : ByteArray) (oa : Option Addr) (l : List Wr) (c : Nat) (bytes : Int) (w : World) (hl : Flat w 2 encWr oa l) (hm : l.length ≤ 1048576) (hbad : l.all okArea = false) (ht : Tabs w) :
    Calls Tryd.prog 3 #[.agg #[.string x, .string y], .slice oa l.length c, .int .i64 bytes] w (RetYes w) := by
  obtain ⟨kb, hkb, hb1, hb2⟩ := first_bad hbad
  have hb0 := balloc (Below.refl _ w) (.cells #[.string x, .string y] 23)
  have hd0 := DiskAt.new w x y 23
  obtain ⟨W1, hW1⟩ : ∃ W1, W1 = w.alloc (.cells #[.string x, .string y] 23) := ⟨_, rfl⟩
  have hs1 : W1.heap.size = w.heap.size + 1 := by rw [hW1]; exact World.size_alloc _ _
  rw [← hW1] at hb0 hd0
  have HQU := Lib.hid (queues4_any W1 (ht.below hb0))
  have HCR : Hid (∀ W, Below w.heap.size w W → Calls Tryd.prog 7 #[.agg #[.string x, .string y], .slice oa l.length c, .int .i64 bytes] W (RetDisk ⟨#[]⟩ ⟨#[]⟩ 3 W)) := fun W hb => crash_no x y oa l c bytes W (hl.below hb) hm hbad
  have HL := Lib.hid hl
  have HB1 := Lib.hid hb1
  have HB2 := Lib.hid hb2
  have HW1 := Lib.hid hW1
  have HB0 := Lib.hid hb0
  have HD0 := Lib.hid hd0
  obtain ⟨n, hn⟩ : ∃ n, n = l.length := ⟨_, rfl⟩
  have HN := Lib.hid hn
  rw [← hn] at HCR
  rw [← hn]
  rw [← hn] at hkb hm
  clear hl hbad hb1 hb2 hn hW1 hb0 hd0 ht
  go_enter Tryd.func3, Tryd.ntmps3
  go_wp2_with fail
  rw [← HW1.out]
  refine HQU.out.mono ?_
  rintro e w2 ⟨rfl, hb2⟩
  have HB2' := Lib.hid (bthen HB0.out hb2)
  have HD2 := Lib.hid (HD0.out.below hb2 (by omega))
  have hz2 := hb2.size
  have d0 : w2.cell? ⟨w.heap.size, 0, none⟩ = some (.string x) := HD2.out.at' 0 (by omega)
  have d1 : w2.cell? ⟨w.heap.size, 1, none⟩ = some (.string y) := HD2.out.at' 1 (by omega)
  clear hb2 HQU HD0 HB0
  go_wp2_with fail
  refine (HCR.out _ HB2'.out).mono ?_
  rintro e w3 ⟨rfl, hb3⟩
  have HB3 := Lib.hid (bthen HB2'.out hb3)
  have HD3 := Lib.hid (HD2.out.below hb3 (by omega))
  have hz3 := hb3.size
  have k0 : w3.cell? ⟨w.heap.size, 0, none⟩ = some (.string x) := HD3.out.at' 0 (by omega)
  have k1 : w3.cell? ⟨w.heap.size, 1, none⟩ = some (.string y) := HD3.out.at' 1 (by omega)
  have hlt3 : w.heap.size < w3.heap.size := by omega
  clear hb3 d0 d1 HD2 HCR
  go_upto_region 5 with fail
  have HBE := Lib.hid (balloc (balloc HB3.out (.cells #[.string ⟨#[]⟩, .string ⟨#[]⟩] 23)) (.cells #[.string x, .string y] 23))
  have HDC := Lib.hid ((DiskAt.new w3 ⟨#[]⟩ ⟨#[]⟩ 23).alloc (by simp) (.cells #[.string x, .string y] 23))
  have hz4 : w3.heap.size + 1 < ((w3.alloc (.cells #[.string ⟨#[]⟩, .string ⟨#[]⟩] 23)).alloc (.cells #[.string x, .string y] 23)).heap.size := by simp
  generalize (w3.alloc (.cells #[.string ⟨#[]⟩, .string ⟨#[]⟩] 23)).alloc (.cells #[.string x, .string y] 23) = w4 at *
  generalize w3.heap.size = bc at *
  clear k0 k1 HD3 HB3 HB2'
  go_wp2
  go_loopw [28] (fun i wr => ∃ k : Nat, k ≤ kb ∧ i = .int .i64 k ∧ Hid (Below w.heap.size w wr ∧ DiskAt wr bc ⟨#[]⟩ ⟨#[]⟩) ∧ bc + 1 < wr.heap.size) (fun i _ => kb + 1 - (intOf i).toNat)
  case atStart => exact ⟨0, by omega, rfl, ⟨HBE.out, HDC.out⟩, hz4⟩
  case round =>
    clear HBE HDC hz4
    obtain ⟨k, hk, rfl, HR, hz⟩ := hrel
    have hkn : k < n := by omega
    have hkl : k < l.length := by have := HN.out; omega
    have kd : (k : Int) < (n : Int) := by omega
    have k0 : (0 : Int) ≤ (k : Int) := by omega
    obtain ⟨bw, offw, rfl, i0, i1⟩ := (HL.out.below HR.out.1).wr hkl
    obtain ⟨z, hzz⟩ : ∃ z, z = l[k] := ⟨_, rfl⟩
    rw [← hzz] at i0 i1
    have hbw := cell?_lt i0
    simp only at hbw
    by_cases hlt : k < kb
    · have ho : okArea z = true := by rw [hzz]; exact HB2.out k hlt
      clear hzz
      have HNX := Lib.hid (And.intro (balloc HR.out.1 (.cells #[.int .i64 z.area, .string z.data] 30)) (HR.out.2.alloc (by omega) (.cells #[.int .i64 z.area, .string z.data] 30)))
      rcases okArea_yes ho with ha | ha
      · have e1 : (z.area != 0) = false := by simp [ha]
        clear ha ho
        go_wp2
        go_roundw
        case rel => exact ⟨k + 1, by omega, by go_num, HNX, by simp; omega⟩
        case measure => simp [intOf]; omega
      · have e1 : (z.area != 0) = true := by simp [ha]
        have e2 : (z.area != 1) = false := by simp [ha]
        clear ha ho
        go_wp2
        go_roundw
        case rel => exact ⟨k + 1, by omega, by go_num, HNX, by simp; omega⟩
        case measure => simp [intOf]; omega
    · obtain rfl : kb = k := by omega
      obtain ⟨e1, e2⟩ := okArea_no (show okArea z = false by rw [hzz]; exact HB1.out)
      clear hzz
      have d0 : wr.cell? ⟨bc, 0, none⟩ = some (.string ⟨#[]⟩) := HR.out.2.at' 0 (by omega)
      have d1 : wr.cell? ⟨bc, 1, none⟩ = some (.string ⟨#[]⟩) := HR.out.2.at' 1 (by omega)
      have hne : bc ≠ wr.heap.size := by omega
      have hltc : bc < wr.heap.size := by omega
      have HNX := Lib.hid (balloc HR.out.1 (.cells #[.int .i64 z.area, .string z.data] 30))
      go_wp2
      go_ret
      exact ⟨rfl, HNX.out⟩
end Go.Proofs.YtnnnihjagjfkdaaDoor
