/-
  The document's first error of feeders: its walk. Own text.
-/
import Derived.Test.YtemldminpndemaaChk
namespace Go.Proofs.Ytemldminpndemaa
open Go.RowKit
set_option linter.unusedVariables false
def lastC (l : List Pt) (i : Nat) : Int := (l.take i).foldl (fun m x => max m x.copy) 0
theorem lastC_zero (l : List Pt) : lastC l 0 = 0 := rfl
theorem lastC_succ (l : List Pt) (i : Nat) (h : i < l.length) : lastC l (i + 1) = max (lastC l i) l[i].copy := by
  unfold lastC
  rw [List.take_succ_eq_append_getElem h, List.foldl_append]
  rfl
theorem lastC_ge (l : List Pt) (i : Nat) (hi : i ≤ l.length) : ∀ j (h : j < l.length), j < i → l[j].copy ≤ lastC l i := by
  induction i with
  | zero => intro j _ h; omega
  | succ i ih =>
    intro j h hj
    rw [lastC_succ l i (by omega)]
    by_cases e : j = i
    · subst e; omega
    · have := ih (by omega) j h (by omega); omega
theorem lastC_lt (l : List Pt) (c : Int) (h0 : 0 < c) (i : Nat) (hi : i ≤ l.length) (h : ∀ j (h : j < l.length), j < i → l[j].copy < c) : lastC l i < c := by
  induction i with
  | zero => simpa [lastC_zero] using h0
  | succ i ih =>
    rw [lastC_succ l i (by omega)]
    have := ih (by omega) fun j h1 h2 => h j h1 (by omega)
    have := h i (by omega) (by omega)
    omega
set_option maxRecDepth 100000 in
set_option maxHeartbeats 4000000 in
theorem feedersError_any (fs : List (List Pt)) (oa : Option Addr) (so : Nat → Option Addr) (sc : Nat → Nat) (ca : Nat) (w : World) (hA : Args w fs oa so sc) (hm : fs.length ≤ maxLen) (hs : ∀ k, k < fs.length → ln fs k ≤ sc k) :
    Calls Try.prog 10 #[.slice oa fs.length ca] w fun e w' => e = .returned (.int .i64 (checkV fs)) ∧ Below w.heap.size w w' := by
  have HA := Lib.hid hA
  have HS := Lib.hid hs
  obtain ⟨n, hn⟩ : ∃ n, n = fs.length := ⟨_, rfl⟩
  have HN := Lib.hid hn
  unfold maxLen at hm
  have hcv : checkV fs = if n < 1 ∨ 8 < n then 2 else feedScan fs := by rw [hn]; rfl
  rw [← hn] at hm ⊢
  clear hA hs hn
  by_cases h0 : n < 1
  · rw [if_pos (.inl h0)] at hcv
    rw [hcv]
    have k1 : ((n : Int) == 0) = true := by have : (n : Int) = 0 := by omega
                                            simp [this]
    clear hcv
    go_enter Try.func10, Try.ntmps10
    go_wp2
    go_ret
    exact ⟨rfl, Below.refl _ _⟩
  · have k1 : ((n : Int) == 0) = false := by have : ¬ (n : Int) = 0 := by omega
                                             simp [this]; omega
    by_cases h8 : 8 < n
    · rw [if_pos (.inr h8)] at hcv
      rw [hcv]
      have k2 : (8 : Int) < (n : Int) := by omega
      clear hcv
      go_enter Try.func10, Try.ntmps10
      go_wp2
      go_ret
      exact ⟨rfl, Below.refl _ _⟩
    · have k2 : ¬ (8 : Int) < (n : Int) := by omega
      rw [if_neg (by omega)] at hcv
      rw [hcv]
      clear hcv
      obtain ⟨E, hE⟩ : ∃ E, E = feedScan fs := ⟨_, rfl⟩
      rw [← hE]
      have HE := Lib.hid hE
      clear hE
      go_enter Try.func10, Try.ntmps10
      go_wp2
      go_loopw [19] (fun i wr => ∃ k : Nat, k ≤ n ∧ i = .int .i64 k ∧ Hid (Below w.heap.size w wr ∧ E = feedScan (fs.drop k))) (fun i _ => n - (intOf i).toNat)
      case atStart => exact ⟨0, by omega, rfl, Below.refl _ _, HE.out⟩
      case round =>
        obtain ⟨k, hk, rfl, HX⟩ := hrel
        by_cases hlt : k < n
        · have hkx : k < fs.length := by have := HN.out; omega
          obtain ⟨ba, off, rfl, p0⟩ := (HA.out.below HX.out.1).hd k hkx
          have HROW := Lib.hid (HA.out.row k hkx)
          have hdr : fs.drop k = fs[k] :: fs.drop (k + 1) := List.drop_eq_getElem_cons hkx
          have kd : (k : Int) < (n : Int) := by omega
          have k0 : (0 : Int) ≤ (k : Int) := by omega
          obtain ⟨l, hl⟩ : ∃ l, l = fs[k] := ⟨_, rfl⟩
          rw [ln_get fs k hkx] at p0
          rw [← hl] at HROW hdr p0
          have HDR : Hid (E = if rowErr l = 0 then feedScan (fs.drop (k + 1)) else rowErr l) := by
            have h1 := HX.out.2
            rw [hdr] at h1
            exact h1
          have HBX := Lib.hid HX.out.1
          obtain ⟨P, hP⟩ : ∃ P, P = l.length := ⟨_, rfl⟩
          rw [← hP] at p0
          have HP := Lib.hid hP
          have HL := Lib.hid hl
          clear HX hl hdr hP
          obtain ⟨w2, rfl⟩ : ∃ w2 : World, w2 = wr := ⟨_, rfl⟩
          by_cases hb : 512 < P
          · have k5 : (512 : Int) < (P : Int) := by omega
            have hre : rowErr l = 2 := by unfold rowErr; rw [if_pos (by have := HP.out; omega)]
            have HF : Hid (Ending.returned (.int .i64 2) = .returned (.int .i64 E) ∧ Below w.heap.size w w2) := ⟨by rw [HDR.out, hre]; rfl, HBX.out⟩
            clear hre
            go_wp2
            go_ret
            exact HF.out
          · have k5 : ¬ (512 : Int) < (P : Int) := by omega
            have hre : rowErr l = scanV 0 l := by unfold rowErr; rw [if_neg (by have := HP.out; omega)]
            have HRE := Lib.hid hre
            clear hre
            go_wp2
            clear p0
            go_loopw [28] (fun i wr => ∃ j : Nat, j ≤ P ∧ i = .int .i64 j ∧ Hid (Below w.heap.size w wr ∧ scanV 0 l = scanV (lastC l j) (l.drop j))) (fun i _ => P - (intOf i).toNat)
            case atStart => exact ⟨0, by omega, rfl, HBX.out, rfl⟩
            case round =>
              clear HBX
              obtain ⟨j, hj, rfl, HX⟩ := hrel
              by_cases hjt : j < P
              · have hjx : j < l.length := by have := HP.out; omega
                obtain ⟨bo, oo, hso, i0, i1⟩ := (HROW.out.below HX.out.1).pt hjx
                rw [hso]
                have hdr : l.drop j = l[j] :: l.drop (j + 1) := List.drop_eq_getElem_cons hjx
                have jd : (j : Int) < (P : Int) := by omega
                have j0 : (0 : Int) ≤ (j : Int) := by omega
                have HLS := Lib.hid (lastC_succ l j hjx)
                obtain ⟨x, hx⟩ : ∃ x, x = l[j] := ⟨_, rfl⟩
                rw [← hx] at i0 i1 hdr HLS
                obtain ⟨xc, xs⟩ := x
                dsimp only at i0 i1
                have HSC : Hid (scanV 0 l = if xc < 0 ∨ 9999 < xc then 3 else if xc ≠ 0 ∧ xc ≤ lastC l j then 18 else scanV (lastC l (j + 1)) (l.drop (j + 1))) := by
                  have h1 := HX.out.2
                  rw [hdr] at h1
                  have h2 := HLS.out
                  rw [h2]
                  exact h1
                have HB5 : Hid (Below w.heap.size w (wr.alloc (.cells #[.int .i64 xc, .bool xs] 41))) := HX.out.1.alloc HX.out.1.size _
                clear HX hdr hx HLS
                obtain ⟨wo, rfl⟩ : ∃ wo : World, wo = wr := ⟨_, rfl⟩
                have HROW2 : Hid (Flat w 2 encPt (some ⟨bo, oo, none⟩) l) := by have h := HROW.out; rw [hso] at h; exact h
                by_cases hbad : xc < 0 ∨ 9999 < xc
                · have HF : Hid (Ending.returned (.int .i64 3) = .returned (.int .i64 E) ∧ Below w.heap.size w (wo.alloc (.cells #[.int .i64 xc, .bool xs] 41))) := ⟨by rw [HDR.out, HRE.out, HSC.out, if_pos hbad]; rfl, HB5.out⟩
                  clear hso
                  rcases hbad with hb1 | hb1
                  · go_wp2
                    go_ret
                    exact HF.out
                  · have hb2 : ¬ xc < 0 := by omega
                    go_wp2
                    go_ret
                    exact HF.out
                · have hb1 : ¬ xc < 0 := by omega
                  have hb2 : ¬ 9999 < xc := by omega
                  have HSC2 : Hid (scanV 0 l = if xc ≠ 0 ∧ xc ≤ lastC l j then 18 else scanV (lastC l (j + 1)) (l.drop (j + 1))) := by show _ = _; rw [HSC.out, if_neg hbad]
                  have hjc : j ≤ sc k := by have h1 := HS.out k hkx; rw [ln_get fs k hkx] at h1; have h2 := HP.out; have h3 := HL.out; rw [← h3] at h1; omega
                  have q0 : (wo.alloc (.cells #[.int .i64 xc, .bool xs] 41)).cell? ⟨wo.heap.size, 0, none⟩ = some (.int .i64 xc) := by rw [cell_of_row _ wo.heap.size 0 _ _ (0, 0) (heap_alloc_new wo _)]; rfl
                  have HS0 : Hid (Below w.heap.size w (wo.alloc (.cells #[.int .i64 xc, .bool xs] 41)) ∧ (wo.alloc (.cells #[.int .i64 xc, .bool xs] 41)).cell? ⟨wo.heap.size, 0, none⟩ = some (.int .i64 xc)) := ⟨HB5.out, q0⟩
                  clear hbad HSC q0 HB5
                  go_wp2
                  clear i0 i1 hso
                  go_loopw [45] (fun i wr => ∃ m : Nat, m ≤ j ∧ i = .int .i64 m ∧ Hid (Below w.heap.size w wr ∧ wr.cell? ⟨wo.heap.size, 0, none⟩ = some (.int .i64 xc) ∧ (0 < xc → ∀ q (h : q < l.length), q < m → l[q].copy < xc))) (fun i _ => j - (intOf i).toNat)
                  case atStart => exact ⟨0, by omega, rfl, HS0.out.1, HS0.out.2, fun _ q _ h => by omega⟩
                  case round =>
                    clear HS0
                    obtain ⟨m, hm1, rfl, HY⟩ := hrel
                    obtain ⟨x, hx⟩ : ∃ x, x = wo.heap.size := ⟨_, rfl⟩
                    rw [← hx] at HY ⊢
                    clear hx
                    by_cases hmt : m < j
                    · have hmx : m < l.length := by omega
                      obtain ⟨b1, o1, e1, i0, i1⟩ := (HROW2.out.below HY.out.1).pt hmx
                      simp only [Option.some.injEq, Addr.mk.injEq, and_true] at e1
                      obtain ⟨rfl, rfl⟩ := e1
                      have q0 := HY.out.2.1
                      have xlt : x < wr.heap.size := cell?_lt q0
                      have md : (m : Int) < (j : Int) := by omega
                      have m0 : (0 : Int) ≤ (m : Int) := by omega
                      obtain ⟨y, hy⟩ : ∃ y, y = l[m] := ⟨_, rfl⟩
                      rw [← hy] at i0 i1
                      have HYL := Lib.hid hy
                      obtain ⟨yc, ys⟩ := y
                      dsimp only at i0 i1
                      have HB7 : Hid (Below w.heap.size w (wr.alloc (.cells #[.int .i64 yc, .bool ys] 41))) := HY.out.1.alloc HY.out.1.size _
                      clear hy
                      by_cases hp : 0 < xc
                      · by_cases hq : xc ≤ yc
                        · have HF : Hid (Ending.returned (.int .i64 18) = .returned (.int .i64 E) ∧ Below w.heap.size w (wr.alloc (.cells #[.int .i64 yc, .bool ys] 41))) := by
                            have h1 := lastC_ge l j (by omega) m hmx hmt
                            rw [← HYL.out] at h1
                            refine ⟨?_, HB7.out⟩
                            have h5 : E = 18 := by
                              have h2 := HSC2.out
                              rw [if_pos ⟨by omega, Int.le_trans hq h1⟩] at h2
                              rw [HDR.out, HRE.out, h2]
                              rfl
                            rw [h5]
                          have hq1 : yc ≥ xc := hq
                          go_wp2
                          go_ret
                          exact HF.out
                        · have hq1 : ¬ yc ≥ xc := hq
                          have HNX : Hid (Below w.heap.size w (wr.alloc (.cells #[.int .i64 yc, .bool ys] 41)) ∧ (wr.alloc (.cells #[.int .i64 yc, .bool ys] 41)).cell? ⟨x, 0, none⟩ = some (.int .i64 xc) ∧ (0 < xc → ∀ q (h : q < l.length), q < m + 1 → l[q].copy < xc)) :=
                            ⟨HB7.out, keepCell (balloc (Below.refl _ _) _) HY.out.2.1, fun h0 q h hqm => by
                              by_cases e : q = m
                              · subst e
                                rw [← HYL.out]
                                show yc < xc
                                omega
                              · exact HY.out.2.2 h0 q h (by omega)⟩
                          clear HB7
                          go_wp2
                          go_roundw
                          case rel => exact ⟨m + 1, by omega, by go_num, HNX⟩
                          case measure => simp [intOf]; omega
                      · have HNX : Hid (Below w.heap.size w (wr.alloc (.cells #[.int .i64 yc, .bool ys] 41)) ∧ (wr.alloc (.cells #[.int .i64 yc, .bool ys] 41)).cell? ⟨x, 0, none⟩ = some (.int .i64 xc) ∧ (0 < xc → ∀ q (h : q < l.length), q < m + 1 → l[q].copy < xc)) :=
                          ⟨HB7.out, keepCell (balloc (Below.refl _ _) _) HY.out.2.1, fun h0 => absurd h0 hp⟩
                        clear HB7
                        go_wp2
                        go_roundw
                        case rel => exact ⟨m + 1, by omega, by go_num, HNX⟩
                        case measure => simp [intOf]; omega
                    · obtain rfl : m = j := by omega
                      have HNX : Hid (Below w.heap.size w wr ∧ scanV 0 l = scanV (lastC l (m + 1)) (l.drop (m + 1))) := by
                        refine ⟨HY.out.1, ?_⟩
                        rw [HSC2.out, if_neg]
                        rintro ⟨g1, g2⟩
                        have := lastC_lt l xc (by omega) m (by omega) (HY.out.2.2 (by omega))
                        omega
                      clear HY
                      go_wp2
                      go_roundw
                      case rel => exact ⟨m + 1, by omega, by go_num, HNX⟩
                      case measure => simp [intOf]; omega
              · obtain rfl : P = j := by omega
                have HNX : Hid (Below w.heap.size w wr ∧ E = feedScan (fs.drop (k + 1))) := by
                  have h1 := HX.out.2
                  rw [List.drop_eq_nil_of_le (by have := HP.out; omega)] at h1
                  have h2 : rowErr l = 0 := by rw [HRE.out, h1]; rfl
                  exact ⟨HX.out.1, by rw [HDR.out, if_pos h2]⟩
                clear HX
                go_wp2
                go_roundw
                case rel => exact ⟨k + 1, by omega, by go_num, HNX⟩
                case measure => simp [intOf]; omega
        · obtain rfl : n = k := by omega
          have HF : Hid (Ending.returned (.int .i64 0) = .returned (.int .i64 E) ∧ Below w.heap.size w wr) := by
            have h1 := HX.out.2
            rw [List.drop_eq_nil_of_le (by have := HN.out; omega)] at h1
            exact ⟨by rw [h1]; rfl, HX.out.1⟩
          clear HX
          go_wp2
          go_ret
          exact HF.out
end Go.Proofs.Ytemldminpndemaa
