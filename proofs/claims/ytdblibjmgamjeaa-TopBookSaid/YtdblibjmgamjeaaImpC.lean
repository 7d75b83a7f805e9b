/-
  The walk of impose.Check. Own text.
-/
import Derived.Test.YtdblibjmgamjeaaLay
namespace Go.Proofs.Ytdblibjmgamjeaa
open Go.RowKit
set_option linter.unusedVariables false
def GoodL (l : Lay) : Prop := ∃ x, Good l x
theorem Good.rng {l : Lay} {x : Sht} (h : Good l x) : Rng l := ⟨h.w, h.h, h.head, h.fore, h.spine, h.margin, h.creep, h.style⟩
/-- The four spaces of a layout. -/
def spcV (l : Lay) : Nat → Int
  | 0 => l.head
  | 1 => l.fore
  | 2 => l.spine
  | _ => l.margin
def SpcTo (l : Lay) (k : Nat) : Prop := ∀ j, j < k → 0 ≤ spcV l j ∧ spcV l j ≤ 64
theorem SpcTo.next {l : Lay} {k : Nat} (h : SpcTo l k) (h0 : 0 ≤ spcV l k) (h1 : spcV l k ≤ 64) : SpcTo l (k + 1) := fun j hj => by
  by_cases e : j = k
  · subst e; exact ⟨h0, h1⟩
  · exact h j (by omega)
set_option maxRecDepth 100000 in
set_option maxHeartbeats 16000000 in
theorem icheck_any (l : Lay) (os : Option Addr) (cs : Nat) (w : World) (hs : StpAt w l os cs) :
    Calls Try.prog 7 #[.agg #[.int .i64 l.sc.cols, .int .i64 l.sc.rows, .slice os l.sc.steps.length cs, .int .i64 l.w, .int .i64 l.h, .int .i64 l.head, .int .i64 l.fore, .int .i64 l.spine, .int .i64 l.margin, .int .i64 l.creep, .int .i64 l.style]] w (RetCode (GoodL l) w) := by
  have HCH : Hid (∀ W, Below w.heap.size w W → Calls Try.prog 19 #[.agg #[.int .i64 l.sc.cols, .int .i64 l.sc.rows, .slice os l.sc.steps.length cs]] W (RetCode (GoodF l.sc) W)) := fun W hb => fcheck_any l.sc os cs W (hs.f.below hb) hs.m
  have HPG : Hid (∀ W, Below w.heap.size w W → Calls Try.prog 20 #[.agg #[.int .i64 l.sc.cols, .int .i64 l.sc.rows, .slice os l.sc.steps.length cs]] W (RetPages l.sc W)) := fun W hb => pages_any l.sc os cs W (hs.f.below hb) hs.m hs.c
  have HSZ : Hid (∀ x W, Folded l.sc x → Rng l → Below w.heap.size w W → Calls Try.prog 21 #[.agg #[.int .i64 l.sc.cols, .int .i64 l.sc.rows, .slice os l.sc.steps.length cs, .int .i64 l.w, .int .i64 l.h, .int .i64 l.head, .int .i64 l.fore, .int .i64 l.spine, .int .i64 l.margin, .int .i64 l.creep, .int .i64 l.style]] W (RetII (fullW l) (fullH l) W)) := fun x W hx hr hb => size_any l x hx hr os cs W (hs.below hb)
  obtain ⟨m, hm⟩ : ∃ m, m = l.sc.steps.length := ⟨_, rfl⟩
  rw [← hm] at HCH HPG HSZ ⊢
  obtain ⟨W1, hW1⟩ : ∃ W1, W1 = w.alloc (.cells #[.int .i64 l.sc.cols, .int .i64 l.sc.rows, .slice os m cs, .int .i64 l.w, .int .i64 l.h, .int .i64 l.head, .int .i64 l.fore, .int .i64 l.spine, .int .i64 l.margin, .int .i64 l.creep, .int .i64 l.style] 26) := ⟨_, rfl⟩
  have hb1 : Below w.heap.size w W1 := by rw [hW1]; exact balloc (Below.refl _ w) _
  have ht1 : FTab (fun v : Value => v) W1 w.heap.size 11 (layF l os m cs) := by rw [hW1]; exact layF_new w l os m cs _
  have hz1 : W1.heap.size = w.heap.size + 1 := by rw [hW1, World.size_alloc]
  have HTT : Hid (∀ W, Below W1.heap.size W1 W → W.cell? ⟨w.heap.size, 0, none⟩ = some (.int .i64 l.sc.cols) ∧ W.cell? ⟨w.heap.size, 1, none⟩ = some (.int .i64 l.sc.rows) ∧ W.cell? ⟨w.heap.size, 2, none⟩ = some (.slice os m cs) ∧ W.cell? ⟨w.heap.size, 3, none⟩ = some (.int .i64 l.w) ∧ W.cell? ⟨w.heap.size, 4, none⟩ = some (.int .i64 l.h) ∧ W.cell? ⟨w.heap.size, 5, none⟩ = some (.int .i64 l.head) ∧ W.cell? ⟨w.heap.size, 6, none⟩ = some (.int .i64 l.fore) ∧ W.cell? ⟨w.heap.size, 7, none⟩ = some (.int .i64 l.spine) ∧ W.cell? ⟨w.heap.size, 8, none⟩ = some (.int .i64 l.margin) ∧ W.cell? ⟨w.heap.size, 9, none⟩ = some (.int .i64 l.creep) ∧ W.cell? ⟨w.heap.size, 10, none⟩ = some (.int .i64 l.style)) := fun W hb => by
    have h := ht1.below hb (by omega)
    exact ⟨h.at' 0 (by omega), h.at' 1 (by omega), h.at' 2 (by omega), h.at' 3 (by omega), h.at' 4 (by omega), h.at' 5 (by omega), h.at' 6 (by omega), h.at' 7 (by omega), h.at' 8 (by omega), h.at' 9 (by omega), h.at' 10 (by omega)⟩
  have HB1 := Lib.hid hb1
  have NO : Hid (∀ (c : Int) W, c ≠ 0 → Below W1.heap.size W1 W → (∀ x, Good l x → False) → RetCode (GoodL l) w (.returned (.int .i64 c)) W) := fun c W hc hb hn => ⟨c, rfl, ⟨fun h => absurd h hc, fun ⟨x, hx⟩ => (hn x hx).elim⟩, bthen HB1.out hb⟩
  obtain ⟨c0, c1, c2, -⟩ := HTT.out W1 (Below.refl _ _)
  have HC1 := Lib.hid (HCH.out W1 HB1.out)
  clear hb1 ht1 hm hs hz1 HCH
  go_enter Try.func7, Try.ntmps7
  go_upto_region 1 with fail
  rw [← hW1]
  clear hW1
  go_wp2_with fail
  refine HC1.out.mono ?_
  intro e w2 hret
  obtain ⟨code, rfl, hcode, hb2⟩ := hret
  have HB2 := Lib.hid hb2
  clear HC1 hb2
  by_cases hc : code = 0
  case neg =>
    have hne : (code != 0) = true := by simpa using hc
    have HR := Lib.hid (NO.out code w2 hc HB2.out (fun x hx => hc (hcode.2 ⟨x, hx.f.endV⟩)))
    clear hcode hc
    go_wp2_with fail
    go_ret
    exact HR.out
  subst hc
  obtain ⟨c0, c1, c2, -⟩ := HTT.out w2 HB2.out
  have HP := Lib.hid (HPG.out w2 (bthen HB1.out HB2.out))
  clear hcode HPG
  go_wp2_with fail
  refine HP.out.mono ?_
  intro e w3 hret
  obtain ⟨hb3, (⟨c, hc, hno, rfl⟩ | ⟨x, oa, cap, hx, rfl, -, -⟩)⟩ := hret
  · have hne : (c != 0) = true := by simpa using hc
    have HR := Lib.hid (NO.out c w3 hc (bthen HB2.out hb3) (fun x hx => hno ⟨x, hx.f⟩))
    clear hno hc hb3
    go_wp2_with fail
    go_ret
    exact HR.out
  have HB3 := Lib.hid (bthen HB2.out hb3)
  have HX := Lib.hid hx
  obtain ⟨c0, c1, c2, c3, c4, c5, c6, c7, c8, c9, c10⟩ := HTT.out w3 HB3.out
  clear hb3 hx HB2 HP
  generalize (pagesV l.sc x).length = PL at *
  go_upto_region 7 with fail
  by_cases k1 : l.w < 1
  · have HR := Lib.hid (NO.out 3 w3 (by decide) HB3.out (fun x hx => by have := hx.w; omega))
    go_wp2_with fail
    go_ret
    exact HR.out
  by_cases k2 : 256 < l.w
  · have HR := Lib.hid (NO.out 3 w3 (by decide) HB3.out (fun x hx => by have := hx.w; omega))
    go_wp2_with fail
    go_ret
    exact HR.out
  by_cases k3 : l.h < 1
  · have HR := Lib.hid (NO.out 3 w3 (by decide) HB3.out (fun x hx => by have := hx.h; omega))
    go_wp2_with fail
    go_ret
    exact HR.out
  by_cases k4 : 256 < l.h
  · have HR := Lib.hid (NO.out 3 w3 (by decide) HB3.out (fun x hx => by have := hx.h; omega))
    go_wp2_with fail
    go_ret
    exact HR.out
  have HWH : Hid ((1 ≤ l.w ∧ l.w ≤ 256) ∧ (1 ≤ l.h ∧ l.h ≤ 256)) := ⟨by omega, by omega⟩
  go_upto_region 9 with fail
  clear k1 k2 k3 k4
  go_wp2_with fail
  go_loopw [52] (fun i wr => ∃ k : Nat, k ≤ 4 ∧ i = .int .i64 k ∧ w3 = wr ∧ Hid (SpcTo l k)) (fun i _ => 4 - (intOf i).toNat)
  case atStart => exact ⟨0, by omega, rfl, rfl, fun j hj => by omega⟩
  case round =>
    obtain ⟨k, hk, rfl, rfl, HS⟩ := hrel
    have hk5 : k = 0 ∨ k = 1 ∨ k = 2 ∨ k = 3 ∨ k = 4 := by omega
    rcases hk5 with rfl | rfl | rfl | rfl | rfl
    · have hix : ∀ W, (Instr.index 65 (.agg #[.int .i64 l.head, .int .i64 l.fore, .int .i64 l.spine, .int .i64 l.margin]) (.int .i64 0)).run Try.prog W = .ok (.int .i64 l.head) W := fun _ => by kernel_rfl
      by_cases q1 : l.head < 0
      · have HR := Lib.hid (NO.out 3 w3 (by decide) HB3.out (fun x hx => by have := hx.head; omega))
        go_wp2_with fail
        go_ret
        exact HR.out
      by_cases q2 : 64 < l.head
      · have HR := Lib.hid (NO.out 3 w3 (by decide) HB3.out (fun x hx => by have := hx.head; omega))
        go_wp2_with fail
        go_ret
        exact HR.out
      have HN := Lib.hid (HS.out.next (by show 0 ≤ l.head; omega) (by show l.head ≤ 64; omega))
      go_wp2_with fail
      go_roundw
      case rel => exact ⟨1, by omega, rfl, trivial, HN.out⟩
      case measure => simp [intOf]
    · have hix : ∀ W, (Instr.index 65 (.agg #[.int .i64 l.head, .int .i64 l.fore, .int .i64 l.spine, .int .i64 l.margin]) (.int .i64 1)).run Try.prog W = .ok (.int .i64 l.fore) W := fun _ => by kernel_rfl
      by_cases q1 : l.fore < 0
      · have HR := Lib.hid (NO.out 3 w3 (by decide) HB3.out (fun x hx => by have := hx.fore; omega))
        go_wp2_with fail
        go_ret
        exact HR.out
      by_cases q2 : 64 < l.fore
      · have HR := Lib.hid (NO.out 3 w3 (by decide) HB3.out (fun x hx => by have := hx.fore; omega))
        go_wp2_with fail
        go_ret
        exact HR.out
      have HN := Lib.hid (HS.out.next (by show 0 ≤ l.fore; omega) (by show l.fore ≤ 64; omega))
      go_wp2_with fail
      go_roundw
      case rel => exact ⟨2, by omega, rfl, trivial, HN.out⟩
      case measure => simp [intOf]
    · have hix : ∀ W, (Instr.index 65 (.agg #[.int .i64 l.head, .int .i64 l.fore, .int .i64 l.spine, .int .i64 l.margin]) (.int .i64 2)).run Try.prog W = .ok (.int .i64 l.spine) W := fun _ => by kernel_rfl
      by_cases q1 : l.spine < 0
      · have HR := Lib.hid (NO.out 3 w3 (by decide) HB3.out (fun x hx => by have := hx.spine; omega))
        go_wp2_with fail
        go_ret
        exact HR.out
      by_cases q2 : 64 < l.spine
      · have HR := Lib.hid (NO.out 3 w3 (by decide) HB3.out (fun x hx => by have := hx.spine; omega))
        go_wp2_with fail
        go_ret
        exact HR.out
      have HN := Lib.hid (HS.out.next (by show 0 ≤ l.spine; omega) (by show l.spine ≤ 64; omega))
      go_wp2_with fail
      go_roundw
      case rel => exact ⟨3, by omega, rfl, trivial, HN.out⟩
      case measure => simp [intOf]
    · have hix : ∀ W, (Instr.index 65 (.agg #[.int .i64 l.head, .int .i64 l.fore, .int .i64 l.spine, .int .i64 l.margin]) (.int .i64 3)).run Try.prog W = .ok (.int .i64 l.margin) W := fun _ => by kernel_rfl
      by_cases q1 : l.margin < 0
      · have HR := Lib.hid (NO.out 3 w3 (by decide) HB3.out (fun x hx => by have := hx.margin; omega))
        go_wp2_with fail
        go_ret
        exact HR.out
      by_cases q2 : 64 < l.margin
      · have HR := Lib.hid (NO.out 3 w3 (by decide) HB3.out (fun x hx => by have := hx.margin; omega))
        go_wp2_with fail
        go_ret
        exact HR.out
      have HN := Lib.hid (HS.out.next (by show 0 ≤ l.margin; omega) (by show l.margin ≤ 64; omega))
      go_wp2_with fail
      go_roundw
      case rel => exact ⟨4, by omega, rfl, trivial, HN.out⟩
      case measure => simp [intOf]
    · have q := HS.out
      have g1 : 0 ≤ l.head ∧ l.head ≤ 64 := q 0 (by omega)
      have g2 : 0 ≤ l.fore ∧ l.fore ≤ 64 := q 1 (by omega)
      have g3 : 0 ≤ l.spine ∧ l.spine ≤ 64 := q 2 (by omega)
      have g4 : 0 ≤ l.margin ∧ l.margin ≤ 64 := q 3 (by omega)
      have HG : Hid ((0 ≤ l.head ∧ l.head ≤ 64) ∧ (0 ≤ l.fore ∧ l.fore ≤ 64) ∧ (0 ≤ l.spine ∧ l.spine ≤ 64) ∧ (0 ≤ l.margin ∧ l.margin ≤ 64)) := ⟨g1, g2, g3, g4⟩
      clear q g1 g2 g4
      go_upto_region 15 with fail
      by_cases k1 : l.creep < 0
      · have HR := Lib.hid (NO.out 3 w3 (by decide) HB3.out (fun x hx => by have := hx.creep; omega))
        go_wp2_with fail
        go_ret
        exact HR.out
      by_cases k2 : 8 < l.creep
      · have HR := Lib.hid (NO.out 3 w3 (by decide) HB3.out (fun x hx => by have := hx.creep; omega))
        go_wp2_with fail
        go_ret
        exact HR.out
      go_upto_region 17 with fail
      by_cases k3 : l.style < 0
      · have HR := Lib.hid (NO.out 14 w3 (by decide) HB3.out (fun x hx => by have := hx.style; omega))
        go_wp2_with fail
        go_ret
        exact HR.out
      by_cases k4 : 2 < l.style
      · have HR := Lib.hid (NO.out 14 w3 (by decide) HB3.out (fun x hx => by have := hx.style; omega))
        go_wp2_with fail
        go_ret
        exact HR.out
      go_upto_region 19 with fail
      have hRG : Rng l := ⟨HWH.out.1, HWH.out.2, HG.out.1, HG.out.2.1, HG.out.2.2.1, HG.out.2.2.2, ⟨by omega, by omega⟩, ⟨by omega, by omega⟩⟩
      have HRG := Lib.hid hRG
      obtain ⟨P, hP⟩ : ∃ P, P = l.sc.cols * l.sc.rows := ⟨_, rfl⟩
      have hP1 : 1 ≤ P ∧ P ≤ 32 := by
        have h1 := leaves_bd HX.out.inn
        omega
      obtain ⟨D, hD⟩ : ∃ D, D = (P - 1) / 2 * l.creep := ⟨_, rfl⟩
      have hD1 : 0 ≤ D ∧ D ≤ 200 := by
        have h1 := mul_bd ((P - 1) / 2) l.creep 16 8 (by omega) (by omega) (by omega) (by omega)
        omega
      have x1 : IntKind.i64.wrap (l.sc.cols * l.sc.rows) = P := by rw [← hP]; exact IntWalk.i64_in _ (by omega)
      have x2 : IntKind.i64.wrap (P - 1) = P - 1 := IntWalk.i64_in _ (by omega)
      have x3 : IntKind.i64.wrap ((P - 1) / 2 * l.creep) = D := by rw [← hD]; exact IntWalk.i64_in _ (by omega)
      have x4 : 0 ≤ P - 1 := by omega
      have HD : Hid (D = (l.sc.cols * l.sc.rows - 1) / 2 * l.creep) := by show D = _; rw [hD, hP]
      clear k1 k2 k3 k4 hP hD hRG
      by_cases k5 : l.spine < D
      · have HR := Lib.hid (NO.out 19 w3 (by decide) HB3.out (fun x hx => by have := hx.fit; rw [← HD.out] at this; omega))
        go_wp2_with fail
        go_ret
        exact HR.out
      have HSZ2 := Lib.hid (HSZ.out x w3 HX.out HRG.out (bthen HB1.out HB3.out))
      have HK5 : Hid (D ≤ l.spine) := by show _ ≤ _; omega
      go_upto_region 21 with fail
      clear k5 x1 x2 x3 x4 HSZ g3
      have hob := one_bd HX.out HRG.out
      have hfw : 1 ≤ fullW l ∧ fullW l ≤ 6400 ∧ 1 ≤ fullH l ∧ fullH l ≤ 6400 := by
        unfold fullW fullH
        split <;> split <;> omega
      obtain ⟨FW, hFW⟩ : ∃ FW, FW = fullW l := ⟨_, rfl⟩
      obtain ⟨FH, hFH⟩ : ∃ FH, FH = fullH l := ⟨_, rfl⟩
      rw [← hFW, ← hFH] at hfw
      rw [← hFW, ← hFH] at HSZ2
      have HF2 : Hid (FW = fullW l ∧ FH = fullH l) := ⟨hFW, hFH⟩
      clear hob hFW hFH
      go_wp2_with fail
      refine HSZ2.out.mono ?_
      intro e w4 hret
      obtain ⟨rfl, hb4⟩ := hret
      have HB4 := Lib.hid (bthen HB3.out hb4)
      clear hb4 HSZ2
      by_cases r1 : 1024 < FW
      · have HR := Lib.hid (NO.out 2 w4 (by decide) HB4.out (fun x hx => by have := hx.large.1; rw [← HF2.out.1] at this; omega))
        go_wp2_with fail
        go_ret
        exact HR.out
      by_cases r2 : 1024 < FH
      · have HR := Lib.hid (NO.out 2 w4 (by decide) HB4.out (fun x hx => by have := hx.large.2; rw [← HF2.out.2] at this; omega))
        go_wp2_with fail
        go_ret
        exact HR.out
      have HR : Hid (RetCode (GoodL l) w (.returned (.int .i64 0)) w4) := by
        have g := HRG.out
        refine ⟨0, rfl, ⟨fun _ => ⟨x, HX.out, g.w, g.h, g.head, g.fore, g.spine, g.margin, g.creep, g.style, by rw [← HD.out]; exact HK5.out, by rw [← HF2.out.1, ← HF2.out.2]; omega⟩, fun _ => rfl⟩, bthen HB1.out HB4.out⟩
      go_wp2_with fail
      go_ret
      exact HR.out
end Go.Proofs.Ytdblibjmgamjeaa
