/-
  The walk of camera.Number. Own text.
-/
import Derived.Test.YtcadgjhfdolejaaRows2
namespace Go.Proofs.Ytcadgjhfdolejaa
open Go.RowKit
set_option linter.unusedVariables false
def RetTxt0 (res : List UInt8) (w : World) (e : Ending) (w' : World) : Prop := e = .returned (.tuple #[.string (strB res), .int .i64 0]) ∧ Below w.heap.size w w'
set_option maxRecDepth 100000 in
set_option maxHeartbeats 2000000 in
theorem number_any (d c W H : Nat) (t : Nat → Nat) (ht : ∀ i, t i < 256) (hW : 1 ≤ W ∧ W ≤ 1024) (hH : 1 ≤ H ∧ H ≤ 1024) (res : List UInt8) (hres : res ≠ []) (good1 good2 : Nat → Bool) (T : Bm) (hT : T = turnN ⟨W, H, splitP t W H⟩ 1)
    (hok : RowsOk (splitP t W H) W H res good1) (hcase : anyB good1 H = true ∨ (anyB good1 H = false ∧ RowsOk T.p T.W T.H res good2 ∧ anyB good2 T.H = true)) (w : World) (hd : FTab encB w d (W * H) t) :
    Calls Try.prog 12 #[.agg #[.int .i64 W, .int .i64 H, .slice (some ⟨d, 0, none⟩) (W * H) c]] w (RetTxt0 res w) := by
  obtain ⟨n, hn⟩ : ∃ n, n = W * H := ⟨_, rfl⟩
  have hdl : d < w.heap.size := hd.lt (Nat.mul_pos (by omega) (by omega))
  obtain ⟨wa, hwa⟩ : ∃ wa, wa = w.alloc (.cells #[.int .i64 W, .int .i64 H, .slice (some ⟨d, 0, none⟩) n c] 48) := ⟨_, rfl⟩
  have HWA : Hid (w.alloc (.cells #[.int .i64 W, .int .i64 H, .slice (some ⟨d, 0, none⟩) n c] 48) = wa) := hwa.symm
  have hba : Below w.heap.size w wa := by rw [hwa]; exact balloc (Below.refl _ w) _
  have hta : T3 wa w.heap.size (.int .i64 W) (.int .i64 H) (.slice (some ⟨d, 0, none⟩) n c) := by rw [hwa]; exact T3.new w _ _ _ _
  have HCK : Hid (Calls Try.prog 27 #[.agg #[.int .i64 W, .int .i64 H, .slice (some ⟨d, 0, none⟩) n c]] wa fun e w' => e = .returned (.int .i64 0) ∧ Below wa.heap.size wa w') := gcheck_any d c W H n hW hH hn wa
  have HSP : Hid (∀ W', Below wa.heap.size wa W' → Calls Try.prog 28 #[.pointer (some ⟨w.heap.size, 0, none⟩)] W' (RetBits W H (splitP t W H) W')) := fun W' hb => split_any w.heap.size d c W H t ht hW hH W' (by rw [← hn]; exact hta.below hb) (hd.below (hba.trans (hb.mono hba.size)) hdl)
  obtain ⟨P, hP⟩ : ∃ P, P = splitP t W H := ⟨_, rfl⟩
  rw [← hP] at HSP hT hok
  have HTok : Hid (BmOk T) := by rw [hT]; exact turnN_ok (s := ⟨W, H, P⟩) ⟨hW, hH⟩ 1
  have HR1 : Hid (∀ g d c W', BitsAt W' g d c W H P → Calls Try.prog 29 #[.pointer (some ⟨g, 0, none⟩)] W' (RetNum (anyB good1 H) res W')) := fun g d c W' hb => rows_any g d c W H P hW hH res hres good1 hok W' hb
  have HTU : Hid (∀ g d c W', BitsAt W' g d c W H P → Calls Try.prog 24 #[.pointer (some ⟨g, 0, none⟩), .int .i64 1] W' (RetBits T.W T.H T.p W')) := fun g d c W' hb => by
    have e := turned_any g d c W H P hW hH 1 (by decide) W' hb
    rw [← hT] at e
    exact e
  have HCASE : Hid (anyB good1 H = true ∨ (anyB good1 H = false ∧ ∀ g d c W', BitsAt W' g d c T.W T.H T.p → Calls Try.prog 29 #[.pointer (some ⟨g, 0, none⟩)] W' (RetNum true res W'))) := by
    rcases hcase with h | ⟨h1, h2, h3⟩
    · exact .inl h
    · refine .inr ⟨h1, fun g d c W' hb => ?_⟩
      have e := rows_any g d c T.W T.H T.p HTok.out.1 HTok.out.2 res hres good2 h2 W' hb
      rw [h3] at e
      exact e
  have a0 := hta.c0
  have a1 := hta.c1
  have a2 := hta.c2
  have HBA := Lib.hid hba
  have HWH : Hid (0 < W ∧ 0 < H) := ⟨by omega, by omega⟩
  rw [← hn]
  clear hwa hba hta hd hdl hn hP hT hok hcase ht hres hW hH
  go_enter Try.func12, Try.ntmps12
  go_upto_region 1 with fail
  rw [HWA.out]
  clear HWA
  go_wp2_with fail
  refine HCK.out.mono ?_
  rintro e w1 ⟨rfl, hb1⟩
  have HS1 := Lib.hid (HSP.out w1 hb1)
  have HB1 := Lib.hid (bthen HBA.out hb1)
  clear HCK HSP HBA hb1 a0 a1 a2
  go_wp2_with fail
  refine HS1.out.mono ?_
  rintro e w2 ⟨d2, c2, rfl, hd2, h1, h2, h3, hb2⟩
  obtain ⟨w3, hw3⟩ : ∃ w3, w3 = w2.alloc (.cells #[.int .i64 W, .int .i64 H, .slice (some ⟨d2, 0, none⟩) (strV W * H) c2] 29) := ⟨_, rfl⟩
  have HW3 : Hid (w2.alloc (.cells #[.int .i64 W, .int .i64 H, .slice (some ⟨d2, 0, none⟩) (strV W * H) c2] 29) = w3) := hw3.symm
  have hb3 : Below w2.heap.size w2 w3 := by rw [hw3]; exact balloc (Below.refl _ _) _
  have ht3 : T3 w3 w2.heap.size (.int .i64 W) (.int .i64 H) (.slice (some ⟨d2, 0, none⟩) (strV W * H) c2) := by rw [hw3]; exact T3.new w2 _ _ _ _
  have hbits : BitsAt w3 w2.heap.size d2 c2 W H P := ⟨ht3.c0, ht3.c1, ht3.c2, hd2.below hb3 h2⟩
  obtain ⟨g, hg⟩ : ∃ g, g = w2.heap.size := ⟨_, rfl⟩
  have HG : Hid (w2.heap.size = g) := hg.symm
  rw [← hg] at ht3 hbits
  have HT3 := Lib.hid ht3
  have HBT := Lib.hid hbits
  have HB3 : Hid (Below w.heap.size w w3 ∧ w.heap.size ≤ g) := ⟨bthen (bthen HB1.out hb2) hb3, by rw [hg]; exact Nat.le_trans HB1.out.size hb2.size⟩
  have HRW := Lib.hid (HR1.out g d2 c2 w3 hbits)
  clear hw3 hb3 ht3 hbits hg hd2 h1 h2 h3 hb2 HS1 HB1 HR1
  dsimp only
  go_upto_region 5 with fail
  rw [HW3.out, HG.out]
  clear HW3
  go_wp2_with fail
  refine HRW.out.mono ?_
  rintro e w4 ⟨rfl, hb4⟩
  have hc := HCASE.out
  cases ha : anyB good1 H with
  | true =>
    have HF : Hid (RetTxt0 res w (.returned (.tuple #[.string (strB res), .int .i64 0])) w4) := ⟨rfl, bthen HB3.out.1 hb4⟩
    rw [show (if true = true then res else []) = res from rfl, show (if true = true then (0 : Int) else 8) = 0 from rfl]
    clear HRW HCASE hc ha hb4 HT3 HBT HB3
    go_wp2
    go_ret2
    exact HF.out
  | false =>
    rw [ha] at hc
    have hc2 := (hc.resolve_left (by decide)).2
    rw [show (if false = true then res else []) = ([] : List UInt8) from rfl, show (if false = true then (0 : Int) else 8) = 8 from rfl]
    have HB4 : Hid (Below w.heap.size w w4) := bthen HB3.out.1 hb4
    have HT4 := Lib.hid (HT3.out.below hb4)
    have HT5 := Lib.hid (HTU.out g d2 c2 w4 (HBT.out.below hb4 HWH.out.1 HWH.out.2))
    have HC2 := Lib.hid hc2
    clear HRW HCASE hc ha hb4 HT3 HBT hc2
    go_wp2_with fail
    refine HT5.out.mono ?_
    rintro e w5 ⟨d5, c5, rfl, hd5, h1, h2, h3, hb5⟩
    have ht5 := HT4.out.below hb5
    have hgl := HT4.out.lt
    have b0 := ht5.c0
    have b1 := ht5.c1
    have b2 := ht5.c2
    have bf := ht5.fr
    obtain ⟨hT9, hO9⟩ := res_set (x := .int .i64 T.W) (y := .int .i64 T.H) (z := .slice (some ⟨d5, 0, none⟩) (strV T.W * T.H) c5) ht5
    obtain ⟨W9, hW9⟩ : ∃ W9, W9 = resW w5 g (.int .i64 T.W) (.int .i64 T.H) (.slice (some ⟨d5, 0, none⟩) (strV T.W * T.H) c5) := ⟨_, rfl⟩
    rw [← hW9] at hT9 hO9
    have hbt9 : BitsAt W9 g d5 c5 T.W T.H T.p := ⟨hT9.c0, hT9.c1, hT9.c2, hd5.heap (hO9.hp d5 (by omega))⟩
    have HR9 := Lib.hid (HC2.out g d5 c5 W9 hbt9)
    have HB9 : Hid (Below w.heap.size w W9) := hO9.bel (bthen HB4.out hb5) HB3.out.2
    have HW9 : Hid (resW w5 g (.int .i64 T.W) (.int .i64 T.H) (.slice (some ⟨d5, 0, none⟩) (strV T.W * T.H) c5) = W9) := hW9.symm
    unfold resW at HW9
    obtain ⟨TW, hTW⟩ : ∃ v, v = T.W := ⟨_, rfl⟩
    obtain ⟨TH, hTH⟩ : ∃ v, v = T.H := ⟨_, rfl⟩
    rw [← hTW, ← hTH] at HW9 ⊢
    clear hTW hTH hW9 hT9 hO9 hbt9 HC2 HB4 HB3 HT4 HT5 HTU hd5 h1 h2 h3 hb5 ht5 hgl HTok
    go_upto_region 8 with fail
    rw [HW9.out]
    clear HW9
    go_wp2_with fail
    refine HR9.out.mono ?_
    rintro e w8 ⟨rfl, hb8⟩
    have HF : Hid (RetTxt0 res w (.returned (.tuple #[.string (strB res), .int .i64 0])) w8) := ⟨rfl, bthen HB9.out hb8⟩
    rw [show (if true = true then res else []) = res from rfl, show (if true = true then (0 : Int) else 8) = 0 from rfl]
    clear HR9 HB9 hb8
    go_wp2
    go_ret2
    exact HF.out
end Go.Proofs.Ytcadgjhfdolejaa
