/-
  The walk of inverse.Quick. Own text.
-/
import Derived.Test.YtiokmfmcmfbjoaaInvQ
namespace Go.Proofs.Ytiokmfmcmfbjoaa
open Go.RowKit
set_option linter.unusedVariables false
set_option maxRecDepth 100000 in
set_option maxHeartbeats 8000000 in
theorem invquick_any (b ba d : Nat) (P : Prof) (oi : Option Addr) (ci : Nat) (oc : Option Addr) (cc : Nat) (ov : Option Addr) (cv : Nat) (tv m : Nat → Int) (st tt : Int) (gl0 gh0 cl ch : Nat) (w : World)
    (hh : HeldAt w b P oi ci oc cc ov cv) (hok : OkProf P) (hA : AskAt w ba tv st tt) (ca5 : w.cell? ⟨ba, 5, none⟩ = some (.slice (some ⟨gl0, 0, none⟩) d cl)) (ca6 : w.cell? ⟨ba, 6, none⟩ = some (.slice (some ⟨gh0, 0, none⟩) d ch))
    (hlow : ∀ i, i < d → w.cell? ⟨gl0, i, none⟩ = some (.int .i64 0)) (hhigh : ∀ i, i < d → w.cell? ⟨gh0, i, none⟩ = some (.int .i64 255)) (hd : d = P.inks.length) (htt : (d : Int) * 255 ≤ tt) (hst : st = 51 ∨ st = 85)
    (htv : ∀ o, o < 3 → tv o = labV P (candL d st m) o) (hm : ∀ i, i < d → 0 ≤ m i ∧ m i * st ≤ 255) :
    Calls Try.prog 18 #[.pointer (some ⟨b, 0, none⟩), .pointer (some ⟨ba, 0, none⟩)] w (RetFind P d st tv w) := by
  have hf := hok.few
  have d1 : 1 ≤ d := by omega
  have d4 : d ≤ 4 := by omega
  obtain ⟨N, hN⟩ : ∃ N, N = 255 / st := ⟨_, rfl⟩
  have st1 : 1 ≤ st := by omega
  have st2 : st ≤ 255 := by omega
  have n1 : N * st = 255 := by rcases hst with rfl | rfl <;> (rw [hN]; decide)
  have n2 : (st - 1).tdiv st = 0 := by rcases hst with rfl | rfl <;> decide
  have n3 : (255 : Int).tdiv st = N := by rcases hst with rfl | rfl <;> (rw [hN]; decide)
  have n4 : 0 ≤ N ∧ N ≤ 5 := by rcases hst with rfl | rfl <;> (rw [hN]; decide)
  have HIN : Hid (InB d (fun _ => 0) (fun _ => N) m) := fun i hi => by
    obtain ⟨h1, h2⟩ := hm i hi
    refine ⟨h1, ?_⟩
    show m i ≤ N
    rcases hst with rfl | rfl <;> omega
  have htb : ∀ o, o < 3 → -65535 ≤ tv o ∧ tv o ≤ 65535 := fun o ho => by rw [htv o ho]; exact labV_bd hok _ _
  have HRUN : Hid (∀ bs bl bh bf bt lo hi W, Geo w.heap.size bs bl bh bf bt → SrcA w b ba bs bl bh bf bt d st (distV P d st tv) (fun _ => 0) (fun _ => N) lo hi (.slice none 0 0) 0 W → Calls Try.prog 23 #[.pointer (some ⟨bs, 0, none⟩)] W (RetRun w b ba bs bl bh bf bt d st (distV P d st tv) (fun _ => 0) (fun _ => N) (.slice none 0 0) 0 m)) := fun bs bl bh bf bt lo hi W hG hS => by
    obtain ⟨n, hn⟩ : ∃ n : Nat, widthV (fun _ => 0) (fun _ => N) d < (n : Int) := ⟨(widthV (fun _ => 0) (fun _ => N) d + 1).toNat, by omega⟩
    exact run_any w b ba bs bl bh bf bt d st P oi ci oc cc ov cv tv m hG hh hok tt hA hd htt ⟨st1, st2⟩ htv htb n _ _ lo hi _ _ W hn (fun i _ => ⟨Int.le_refl _, n4.1, by rw [n1]; omega⟩) hS
  have c1 : w.cell? ⟨b, 1, none⟩ = some (.slice oi P.inks.length ci) := by
    have h := hh.box.at' 1 _ rfl
    rwa [Nat.zero_add] at h
  rw [← hd] at c1
  have HH := Lib.hid hh
  have HA := Lib.hid hA
  have HLO := Lib.hid hlow
  have HHI := Lib.hid hhigh
  have e5 := ca5
  have e6 := ca6
  have hbw := cell?_lt c1
  simp only at hbw
  have hba := cell?_lt hA.step
  simp only at hba
  have mk := run_makeArr (P := Try.prog) elemInt Try.underlying24 (.int .i64 0) rfl d (by omega) (by omega)
  clear hh hA hlow hhigh htv htb hm hok hst hf hd hN
  go_enter Try.func18, Try.ntmps18
  go_upto_region 2 with fail
  go_cut [8] (fun s8 wx => ∃ bs bl bh bf bt : Nat, s8 = .pointer (some ⟨bs, 0, none⟩) ∧ Hid (Geo w.heap.size bs bl bh bf bt ∧ SrcA w b ba bs bl bh bf bt d st (distV P d st tv) (fun _ => 0) (fun _ => 0) (fun _ => 0) (fun _ => 0) (.slice none 0 0) 0 wx))
  case first =>
    go_region
    all_goals
      go_wp2_with fail
      go_meet
    all_goals exact ⟨_, _, _, _, _, rfl, src_made' (by omega) (by omega) (by omega) (by omega) (by omega) (by omega) (by omega) (by omega) (by omega) (by omega)⟩
  case rest =>
    obtain ⟨bs, bl, bh, bf, bt, rfl, HC⟩ := hcut
    have HG := Lib.hid HC.out.1
    have HS0 : Hid (SrcA w b ba bs bl bh bf bt d st (distV P d st tv) (upTo 0 (fun _ => 0) (fun _ => 0)) (upTo 0 (fun _ => N) (fun _ => 0)) (fun _ => 0) (fun _ => 0) (.slice none 0 0) 0 wc) := HC.out.2.congr (fun i _ => (if_neg (by omega)).symm) (fun i _ => (if_neg (by omega)).symm) (fun _ _ => rfl) (fun _ _ => rfl)
    clear HC mk
    go_wp2
    go_loopw [28] (fun s28 wr => ∃ k : Nat, k ≤ d ∧ s28 = .int .i64 k ∧ Hid (SrcA w b ba bs bl bh bf bt d st (distV P d st tv) (upTo k (fun _ => 0) (fun _ => 0)) (upTo k (fun _ => N) (fun _ => 0)) (fun _ => 0) (fun _ => 0) (.slice none 0 0) 0 wr)) (fun s28 _ => d - (intOf s28).toNat)
    case atStart => exact ⟨0, by omega, rfl, HS0⟩
    case round =>
      clear HS0 c1 e5 e6
      obtain ⟨k, hk, rfl, HS⟩ := hrel
      by_cases hlt : k < d
      · have hbe := HS.out.bel
        have a3 := (HA.out.below hbe).step
        have a5 : wr.cell? ⟨ba, 5, none⟩ = some (.slice (some ⟨gl0, 0, none⟩) d cl) := (hbe.cell (p := ⟨ba, 5, none⟩) hba).trans ca5
        have a6 : wr.cell? ⟨ba, 6, none⟩ = some (.slice (some ⟨gh0, 0, none⟩) d ch) := (hbe.cell (p := ⟨ba, 6, none⟩) hba).trans ca6
        have l1 := cell?_lt (HLO.out k hlt)
        have l2 := cell?_lt (HHI.out k hlt)
        simp only at l1 l2
        have a7 : wr.cell? ⟨gl0, k, none⟩ = some (.int .i64 0) := (hbe.cell (p := ⟨gl0, k, none⟩) l1).trans (HLO.out k hlt)
        have a8 : wr.cell? ⟨gh0, k, none⟩ = some (.int .i64 255) := (hbe.cell (p := ⟨gh0, k, none⟩) l2).trans (HHI.out k hlt)
        have i6 : wr.cell? ⟨bs, 6, none⟩ = some (.slice (some ⟨bf, 0, none⟩) d d) := HS.out.s.at' 6 (by omega)
        have i7 : wr.cell? ⟨bs, 7, none⟩ = some (.slice (some ⟨bt, 0, none⟩) d d) := HS.out.s.at' 7 (by omega)
        have f1 : wr.cell? ⟨bf, k, none⟩ = some (.int .i64 0) := by have h := HS.out.fr.at' k hlt; unfold upTo at h; rw [if_neg (by omega)] at h; exact h
        have f2 : wr.cell? ⟨bt, k, none⟩ = some (.int .i64 0) := by have h := HS.out.up.at' k hlt; unfold upTo at h; rw [if_neg (by omega)] at h; exact h
        have f3 := HS.out.fr.fz k
        have f4 := HS.out.up.fz k
        have g1 := HG.out.sf
        have g2 := HG.out.st
        have g3 := HG.out.ft
        have g4 := HG.out.gf
        have g5 := HG.out.gt
        have h1 : ba ≠ bf := by omega
        have h2 : ba ≠ bt := by omega
        have h3 : gl0 ≠ bf := by omega
        have h4 : gl0 ≠ bt := by omega
        have h5 : gh0 ≠ bf := by omega
        have h6 : gh0 ≠ bt := by omega
        have x0 : IntKind.i64.wrap st = st := IntWalk.i64_in _ (by omega)
        have x1 : IntKind.i64.wrap (st - 1) = st - 1 := IntWalk.i64_in _ (by omega)
        have x2 : IntKind.i64.wrap N = N := IntWalk.i64_in _ (by omega)
        have x5 : IntKind.i64.wrap 0 = 0 := by decide
        have x3 : ¬ st = 0 := by omega
        have x4 : ¬ N < 0 := by omega
        have k0 : (0 : Int) ≤ (k : Int) := by omega
        have kd : (k : Int) < (d : Int) := by omega
        have HNX : Hid (SrcA w b ba bs bl bh bf bt d st (distV P d st tv) (upTo (k + 1) (fun _ => 0) (fun _ => 0)) (upTo (k + 1) (fun _ => N) (fun _ => 0)) (fun _ => 0) (fun _ => 0) (.slice none 0 0) 0 ((wr.setCell ⟨bf, k, none⟩ (.int .i64 0)).setCell ⟨bt, k, none⟩ (.int .i64 N))) :=
          ((HS.out.setFr HG.out hlt 0).setUp HG.out hlt N).congr (fun i _ => upTo_next rfl i) (fun i _ => upTo_next rfl i) (fun _ _ => rfl) (fun _ _ => rfl)
        clear hbe l1 l2
        go_wp2
        go_region_held3 (fun w' => w'.cell? ⟨ba, 3, none⟩ = some (.int .i64 st) ∧ w'.cell? ⟨ba, 5, none⟩ = some (.slice (some ⟨gl0, 0, none⟩) d cl) ∧ w'.cell? ⟨ba, 6, none⟩ = some (.slice (some ⟨gh0, 0, none⟩) d ch) ∧ w'.cell? ⟨gl0, k, none⟩ = some (.int .i64 0) ∧ w'.cell? ⟨gh0, k, none⟩ = some (.int .i64 255) ∧ w'.cell? ⟨bs, 6, none⟩ = some (.slice (some ⟨bf, 0, none⟩) d d) ∧ w'.cell? ⟨bs, 7, none⟩ = some (.slice (some ⟨bt, 0, none⟩) d d)) ((refine ⟨?_, ?_, ?_, ?_, ?_, ?_, ?_⟩ <;> go_simp)) (fail)
        have HS2 := Lib.hid HNX.out.drew
        clear HNX HS a3 a5 a6 a7 a8 i6 i7 f1 f2 f3 f4
        generalize ((wr.setCell ⟨bf, k, none⟩ (.int .i64 0)).setCell ⟨bt, k, none⟩ (.int .i64 N)).drew = W6 at *
        have i6 : W6.cell? ⟨bs, 6, none⟩ = some (.slice (some ⟨bf, 0, none⟩) d d) := HS2.out.s.at' 6 (by omega)
        have i7 : W6.cell? ⟨bs, 7, none⟩ = some (.slice (some ⟨bt, 0, none⟩) d d) := HS2.out.s.at' 7 (by omega)
        have f1 : W6.cell? ⟨bf, k, none⟩ = some (.int .i64 0) := by have h := HS2.out.fr.at' k hlt; unfold upTo at h; rw [if_pos (by omega)] at h; exact h
        have f2 : W6.cell? ⟨bt, k, none⟩ = some (.int .i64 N) := by have h := HS2.out.up.at' k hlt; unfold upTo at h; rw [if_pos (by omega)] at h; exact h
        go_wp2
        go_quiet (fail)
        have HS3 := Lib.hid (HS2.out.drewN nq)
        go_wp2
        go_roundw
        case rel => exact ⟨k + 1, by omega, by go_num, HS3⟩
        case measure => simp [intOf]; omega
      · obtain rfl : d = k := by omega
        clear hlt
        have HSF : Hid (SrcA w b ba bs bl bh bf bt d st (distV P d st tv) (fun _ => 0) (fun _ => N) (fun _ => 0) (fun _ => 0) (.slice none 0 0) 0 wr) := HS.out.congr (fun i hi => if_pos hi) (fun i hi => if_pos hi) (fun _ _ => rfl) (fun _ _ => rfl)
        clear HS
        go_upto_region 11 with (go_at_call 23; refine (HRUN.out bs bl bh bf bt _ _ _ HG.out HSF.out).mono ?_; rintro e w5 ⟨lo5, hi5, bv5, far5, rfl, hs5, hp5, hq5⟩; have HS5 := Lib.hid hs5; have HQ5 := Lib.hid (hq5 HIN.out); clear hs5 hp5 hq5)
        rcases HS5.out.be with hb | ⟨g, M, hb, -, -, -, -, -, -, hM, hMb, hD, -⟩
        · exact absurd hb HQ5.out.1
        · have z2 : w5.cell? ⟨bs, 2, none⟩ = some (.slice (some ⟨g, 0, none⟩) d d) := by
            have h := HS5.out.s.at' 2 (by omega)
            rw [hb] at h
            exact h
          have z3 : w5.cell? ⟨bs, 3, none⟩ = some (.int .i64 0) := by
            have h := HS5.out.s.at' 3 (by omega)
            rw [HQ5.out.2] at h
            exact h
          have eqn := fun W => run_eql_nil (some ⟨g, 0, none⟩) d d W
          simp only [Option.isNone_some] at eqn
          have HFIN : Hid (∀ q, RetFind P d st tv w (.returned (.tuple #[.slice (some ⟨g, 0, none⟩) d d, .int .i64 0, .int .i64 0])) (w5.drewN q)) := fun q => ⟨g, M, rfl, hM.drewN q, hMb, by rw [← hD, HQ5.out.2], bdrewN HS5.out.bel q⟩
          clear hb hM hMb hD
          go_wp2
          go_quiet (fail)
          go_wp2
          go_ret3
          exact HFIN.out _
end Go.Proofs.Ytiokmfmcmfbjoaa
