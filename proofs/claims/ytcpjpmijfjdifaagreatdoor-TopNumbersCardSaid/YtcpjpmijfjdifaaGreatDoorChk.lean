/-
  The checks of a machine's arguments. Own text.
-/
import Derived.Test.YtcpjpmijfjdifaaGreatDoorFinV
namespace Go.Proofs.YtcpjpmijfjdifaaGreatDoor
open Go.RowKit
set_option linter.unusedVariables false
def scanV : Int → List Pt → Int
  | _, [] => 0
  | last, x :: l => if x.copy < 0 ∨ 9999 < x.copy then 3 else if x.copy ≠ 0 ∧ x.copy ≤ last then 18 else scanV (max last x.copy) l
def rowErr (l : List Pt) : Int := if 512 < l.length then 2 else scanV 0 l
def feedScan : List (List Pt) → Int
  | [] => 0
  | l :: r => if rowErr l = 0 then feedScan r else rowErr l
def checkV (fs : List (List Pt)) : Int := if fs.length < 1 ∨ 8 < fs.length then 2 else feedScan fs
theorem scanV_ok : ∀ (l : List Pt) (last : Int), 0 ≤ last → scanV last l = 0 → (∀ x ∈ l, 0 ≤ x.copy ∧ x.copy ≤ 9999 ∧ (x.copy ≠ 0 → last < x.copy)) ∧ l.Pairwise fun x y => y.copy ≠ 0 → x.copy < y.copy
  | [], _, _, _ => ⟨fun x h => by simp at h, List.Pairwise.nil⟩
  | x :: l, last, h0, h => by
    unfold scanV at h
    by_cases h1 : x.copy < 0 ∨ 9999 < x.copy
    · rw [if_pos h1] at h; cases h
    · rw [if_neg h1] at h
      by_cases h2 : x.copy ≠ 0 ∧ x.copy ≤ last
      · rw [if_pos h2] at h; cases h
      · rw [if_neg h2] at h
        obtain ⟨h3, h4⟩ := scanV_ok l (max last x.copy) (by omega) h
        refine ⟨fun y hy => ?_, List.pairwise_cons.2 ⟨fun y hy hy0 => ?_, h4⟩⟩
        · rcases List.mem_cons.1 hy with rfl | hy
          · exact ⟨by omega, by omega, fun h => by omega⟩
          · have := h3 y hy
            exact ⟨this.1, this.2.1, fun h => by have := this.2.2 h; omega⟩
        · have := (h3 y hy).2.2 hy0
          omega
structure RowOk (l : List Pt) : Prop where
  len : l.length ≤ 512
  rng : ∀ x ∈ l, 0 ≤ x.copy ∧ x.copy ≤ 9999
  inc : l.Pairwise fun x y => y.copy ≠ 0 → x.copy < y.copy
theorem rowErr_ok {l : List Pt} (h : rowErr l = 0) : RowOk l := by
  unfold rowErr at h
  by_cases h1 : 512 < l.length
  · rw [if_pos h1] at h; cases h
  · rw [if_neg h1] at h
    obtain ⟨h2, h3⟩ := scanV_ok l 0 (Int.le_refl _) h
    exact ⟨by omega, fun x hx => ⟨(h2 x hx).1, (h2 x hx).2.1⟩, h3⟩
theorem feedScan_ok : ∀ (fs : List (List Pt)), feedScan fs = 0 → ∀ l ∈ fs, RowOk l
  | [], _, l, hl => by simp at hl
  | m :: r, h, l, hl => by
    unfold feedScan at h
    by_cases h1 : rowErr m = 0
    · rw [if_pos h1] at h
      rcases List.mem_cons.1 hl with rfl | hl
      · exact rowErr_ok h1
      · exact feedScan_ok r h l hl
    · rw [if_neg h1] at h
      exact absurd h h1
structure FeedOk (fs : List (List Pt)) : Prop where
  one : 1 ≤ fs.length
  few : fs.length ≤ 8
  rows : ∀ l ∈ fs, RowOk l
theorem checkV_ok {fs : List (List Pt)} (h : checkV fs = 0) : FeedOk fs := by
  unfold checkV at h
  by_cases h1 : fs.length < 1 ∨ 8 < fs.length
  · rw [if_pos h1] at h; cases h
  · rw [if_neg h1] at h
    exact ⟨by omega, by omega, feedScan_ok fs h⟩
theorem FeedOk.low {fs : List (List Pt)} (h : FeedOk fs) (k : Nat) : ln fs k ≤ 512 := by
  by_cases hk : k < fs.length
  · rw [ln_get fs k hk]; exact (h.rows _ (List.getElem_mem hk)).len
  · have : fs.getD k [] = [] := by rw [List.getD_eq_getElem?_getD, List.getElem?_eq_none (by omega)]; rfl
    unfold ln
    rw [this]
    simp
/-! ### The faults -/
def sameF (x y : Ft) : Bool := y.cyc == x.cyc && y.fdr == x.fdr
def badF (n : Nat) (x : Ft) : Prop := x.cyc < 0 ∨ 512 ≤ x.cyc ∨ x.fdr < 0 ∨ (n : Int) ≤ x.fdr
instance (n : Nat) (x : Ft) : Decidable (badF n x) := by unfold badF; infer_instance
def fltScan (n : Nat) : List Ft → List Ft → Int
  | _, [] => 0
  | pre, x :: r => if badF n x then 3 else if pre.any (sameF x) then 7 else fltScan n (pre ++ [x]) r
def runErr (fs : List (List Pt)) (F : List Ft) : Int := if checkV fs = 0 then (if 512 < F.length then 2 else fltScan fs.length [] F) else checkV fs
theorem fltScan_ok (n : Nat) : ∀ (r pre : List Ft), fltScan n pre r = 0 → (∀ x ∈ r, ¬ badF n x) ∧ (pre.Pairwise (fun x y => sameF y x = false) → (pre ++ r).Pairwise fun x y => sameF y x = false)
  | [], pre, _ => ⟨fun x h => by simp at h, fun h => by simpa using h⟩
  | x :: r, pre, h => by
    unfold fltScan at h
    by_cases h1 : badF n x
    · rw [if_pos h1] at h; cases h
    · rw [if_neg h1] at h
      by_cases h2 : pre.any (sameF x) = true
      · rw [if_pos h2] at h; cases h
      · rw [if_neg h2] at h
        obtain ⟨h3, h4⟩ := fltScan_ok n r (pre ++ [x]) h
        refine ⟨fun y hy => ?_, fun hp => ?_⟩
        · rcases List.mem_cons.1 hy with rfl | hy
          · exact h1
          · exact h3 y hy
        · have h5 := h4 (List.pairwise_append.2 ⟨hp, List.pairwise_singleton _ _, fun y hy z hz => by
            obtain rfl := List.mem_singleton.1 hz
            have := List.any_eq_false.1 (by simpa using h2) y hy
            simpa using this⟩)
          simpa using h5
structure FltOk (n : Nat) (F : List Ft) : Prop where
  len : F.length ≤ 512
  rng : ∀ x ∈ F, 0 ≤ x.cyc ∧ x.cyc ≤ 511 ∧ 0 ≤ x.fdr ∧ x.fdr < n
  one : F.Pairwise fun x y => sameF y x = false
theorem runErr_ok {fs : List (List Pt)} {F : List Ft} (h : runErr fs F = 0) : FeedOk fs ∧ FltOk fs.length F := by
  unfold runErr at h
  by_cases h1 : checkV fs = 0
  · rw [if_pos h1] at h
    by_cases h2 : 512 < F.length
    · rw [if_pos h2] at h; cases h
    · rw [if_neg h2] at h
      obtain ⟨h3, h4⟩ := fltScan_ok fs.length F [] h
      refine ⟨checkV_ok h1, by omega, fun x hx => ?_, h4 List.Pairwise.nil⟩
      have := h3 x hx
      unfold badF at this
      omega
  · rw [if_neg h1] at h
    exact absurd h h1
set_option maxRecDepth 100000 in
set_option maxHeartbeats 4000000 in
theorem check_any (fs : List (List Pt)) (oa : Option Addr) (so : Nat → Option Addr) (sc : Nat → Nat) (ca : Nat) (w : World) (hA : Args w fs oa so sc) (hm : fs.length ≤ maxLen) :
    Calls Tryz.prog 16 #[.slice oa fs.length ca] w fun e w' => e = .returned (.int .i64 (checkV fs)) ∧ Below w.heap.size w w' := by
  have HA := Lib.hid hA
  obtain ⟨n, hn⟩ : ∃ n, n = fs.length := ⟨_, rfl⟩
  have HN := Lib.hid hn
  unfold maxLen at hm
  have hcv : checkV fs = if n < 1 ∨ 8 < n then 2 else feedScan fs := by rw [hn]; rfl
  rw [← hn] at hm ⊢
  clear hA hn
  by_cases h0 : n < 1
  · rw [if_pos (.inl h0)] at hcv
    rw [hcv]
    have k1 : (n : Int) < 1 := by omega
    clear hcv
    go_enter Tryz.func16, Tryz.ntmps16
    go_wp2
    go_ret
    exact ⟨rfl, Below.refl _ _⟩
  · have k1 : ¬ (n : Int) < 1 := by omega
    by_cases h8 : 8 < n
    · rw [if_pos (.inr h8)] at hcv
      rw [hcv]
      have k2 : (8 : Int) < (n : Int) := by omega
      clear hcv
      go_enter Tryz.func16, Tryz.ntmps16
      go_wp2
      go_ret
      exact ⟨rfl, Below.refl _ _⟩
    · have k2 : ¬ (8 : Int) < (n : Int) := by omega
      rw [if_neg (by omega)] at hcv
      rw [hcv]
      clear hcv
      obtain ⟨E, hE⟩ : ∃ E, E = feedScan fs := ⟨_, rfl⟩
      rw [← hE]
      have HE := Lib.hid hE
      clear hE
      go_enter Tryz.func16, Tryz.ntmps16
      go_wp2
      go_loopw [18] (fun i wr => ∃ k : Nat, k ≤ n ∧ i = .int .i64 k ∧ Hid (Below w.heap.size w wr ∧ E = feedScan (fs.drop k))) (fun i _ => n - (intOf i).toNat)
      case atStart => exact ⟨0, by omega, rfl, Below.refl _ _, HE.out⟩
      case round =>
        obtain ⟨k, hk, rfl, HX⟩ := hrel
        by_cases hlt : k < n
        · have hkx : k < fs.length := by have := HN.out; omega
          obtain ⟨ba, off, rfl, p0⟩ := (HA.out.below HX.out.1).hd k hkx
          have HROW := Lib.hid (HA.out.row k hkx)
          have hdr : fs.drop k = fs[k] :: fs.drop (k + 1) := List.drop_eq_getElem_cons hkx
          have kd : (k : Int) < (n : Int) := by omega
          have k0 : (0 : Int) ≤ (k : Int) := by omega
          obtain ⟨l, hl⟩ : ∃ l, l = fs[k] := ⟨_, rfl⟩
          rw [ln_get fs k hkx] at p0
          rw [← hl] at HROW hdr p0
          have HDR : Hid (E = if rowErr l = 0 then feedScan (fs.drop (k + 1)) else rowErr l) := by
            have h1 := HX.out.2
            rw [hdr] at h1
            exact h1
          have HBX := Lib.hid HX.out.1
          obtain ⟨P, hP⟩ : ∃ P, P = l.length := ⟨_, rfl⟩
          rw [← hP] at p0
          have HP := Lib.hid hP
          clear HX hl hdr hP
          obtain ⟨w2, rfl⟩ : ∃ w2 : World, w2 = wr := ⟨_, rfl⟩
          by_cases hb : 512 < P
          · have k5 : (512 : Int) < (P : Int) := by omega
            have hre : rowErr l = 2 := by unfold rowErr; rw [if_pos (by have := HP.out; omega)]
            have HF : Hid (Ending.returned (.int .i64 2) = .returned (.int .i64 E) ∧ Below w.heap.size w w2) := ⟨by rw [HDR.out, hre]; rfl, HBX.out⟩
            clear hre
            go_wp2
            go_ret
            exact HF.out
          · have k5 : ¬ (512 : Int) < (P : Int) := by omega
            have hre : rowErr l = scanV 0 l := by unfold rowErr; rw [if_neg (by have := HP.out; omega)]
            have HRE := Lib.hid hre
            clear hre
            go_wp2
            clear p0
            go_loopw [5, 27] (fun v i wr => ∃ j : Nat, ∃ last : Int, j ≤ P ∧ i = .int .i64 j ∧ v = .int .i64 last ∧ Hid (Below w.heap.size w wr ∧ scanV 0 l = scanV last (l.drop j))) (fun _ i _ => P - (intOf i).toNat)
            case atStart => exact ⟨0, 0, by omega, rfl, rfl, HBX.out, rfl⟩
            case round =>
              clear HBX
              obtain ⟨j, last, hj, rfl, rfl, HX⟩ := hrel
              by_cases hjt : j < P
              · have hjx : j < l.length := by have := HP.out; omega
                obtain ⟨bo, oo, hso, i0, i1⟩ := (HROW.out.below HX.out.1).pt hjx
                rw [hso]
                have hdr : l.drop j = l[j] :: l.drop (j + 1) := List.drop_eq_getElem_cons hjx
                have jd : (j : Int) < (P : Int) := by omega
                have j0 : (0 : Int) ≤ (j : Int) := by omega
                obtain ⟨x, hx⟩ : ∃ x, x = l[j] := ⟨_, rfl⟩
                rw [← hx] at i0 i1 hdr
                obtain ⟨xc, xs⟩ := x
                dsimp only at i0 i1
                have HSC : Hid (scanV 0 l = if xc < 0 ∨ 9999 < xc then 3 else if xc ≠ 0 ∧ xc ≤ last then 18 else scanV (max last xc) (l.drop (j + 1))) := by
                  have h1 := HX.out.2
                  rw [hdr] at h1
                  exact h1
                have HB5 : Hid (Below w.heap.size w (wr.alloc (.cells #[.int .i64 xc, .bool xs] 35))) := HX.out.1.alloc HX.out.1.size _
                have q0 : (wr.alloc (.cells #[.int .i64 xc, .bool xs] 35)).cell? ⟨wr.heap.size, 0, none⟩ = some (.int .i64 xc) := by rw [cell_of_row _ wr.heap.size 0 _ _ (0, 0) (heap_alloc_new wr _)]; rfl
                clear HX hdr hx hso
                by_cases hbad : xc < 0 ∨ 9999 < xc
                · have HF : Hid (Ending.returned (.int .i64 3) = .returned (.int .i64 E) ∧ Below w.heap.size w (wr.alloc (.cells #[.int .i64 xc, .bool xs] 35))) := ⟨by rw [HDR.out, HRE.out, HSC.out, if_pos hbad]; rfl, HB5.out⟩
                  rcases hbad with hb1 | hb1
                  · go_wp2
                    go_ret
                    exact HF.out
                  · have hb2 : ¬ xc < 0 := by omega
                    go_wp2
                    go_ret
                    exact HF.out
                · have hb1 : ¬ xc < 0 := by omega
                  have hb2 : ¬ 9999 < xc := by omega
                  have HSC2 : Hid (scanV 0 l = if xc ≠ 0 ∧ xc ≤ last then 18 else scanV (max last xc) (l.drop (j + 1))) := by show _ = _; rw [HSC.out, if_neg hbad]
                  clear hbad HSC
                  by_cases hz : xc = 0
                  · have HNX : Hid (Below w.heap.size w (wr.alloc (.cells #[.int .i64 0, .bool xs] 35)) ∧ scanV 0 l = scanV (max last 0) (l.drop (j + 1))) := by
                      subst hz
                      exact ⟨HB5.out, by rw [HSC2.out, if_neg (by omega)]⟩
                    subst hz
                    clear HSC2 HB5
                    have hmx : (if last < 0 then (0 : Int) else last) = max last 0 := by split <;> omega
                    have HMX := Lib.hid hmx
                    clear hmx
                    go_wp2
                    go_roundw
                    case rel => exact ⟨j + 1, _, by omega, by go_num, rfl, HNX.out.1, by first | exact HNX.out.2 | (rw [HMX.out]; exact HNX.out.2)⟩
                    case measure => simp [intOf]; omega
                  · have hbe : (xc == 0) = false := by simpa using hz
                    have hbn : (xc != 0) = true := by simpa using hz
                    by_cases hle : xc ≤ last
                    · have h18 : scanV 0 l = 18 := by rw [HSC2.out]; exact if_pos ⟨hz, hle⟩
                      have H18 := Lib.hid h18
                      clear h18
                      have HF : Hid (Ending.returned (.int .i64 18) = .returned (.int .i64 E) ∧ Below w.heap.size w (wr.alloc (.cells #[.int .i64 xc, .bool xs] 35))) := ⟨by rw [HDR.out, HRE.out, H18.out]; rfl, HB5.out⟩
                      go_wp2
                      go_ret
                      exact HF.out
                    · have HNX : Hid (Below w.heap.size w (wr.alloc (.cells #[.int .i64 xc, .bool xs] 35)) ∧ scanV 0 l = scanV (max last xc) (l.drop (j + 1))) := ⟨HB5.out, by rw [HSC2.out, if_neg (by omega)]⟩
                      have hmx : (if last < xc then xc else last) = max last xc := by split <;> omega
                      have HMX := Lib.hid hmx
                      clear hmx HSC2 HB5
                      go_wp2
                      go_roundw
                      case rel => exact ⟨j + 1, _, by omega, by go_num, rfl, HNX.out.1, by first | exact HNX.out.2 | (rw [HMX.out]; exact HNX.out.2)⟩
                      case measure => simp [intOf]; omega
              · obtain rfl : P = j := by omega
                have HNX : Hid (Below w.heap.size w wr ∧ E = feedScan (fs.drop (k + 1))) := by
                  have h1 := HX.out.2
                  rw [List.drop_eq_nil_of_le (by have := HP.out; omega)] at h1
                  have h2 : rowErr l = 0 := by rw [HRE.out, h1]; rfl
                  exact ⟨HX.out.1, by rw [HDR.out, if_pos h2]⟩
                clear HX
                go_wp2
                go_roundw
                case rel => exact ⟨k + 1, by omega, by go_num, HNX⟩
                case measure => simp [intOf]; omega
        · obtain rfl : n = k := by omega
          have HF : Hid (Ending.returned (.int .i64 0) = .returned (.int .i64 E) ∧ Below w.heap.size w wr) := by
            have h1 := HX.out.2
            rw [List.drop_eq_nil_of_le (by have := HN.out; omega)] at h1
            exact ⟨by rw [h1]; rfl, HX.out.1⟩
          clear HX
          go_wp2
          go_ret
          exact HF.out
end Go.Proofs.YtcpjpmijfjdifaaGreatDoor
