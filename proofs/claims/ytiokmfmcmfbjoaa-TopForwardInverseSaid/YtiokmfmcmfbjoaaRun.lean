/-
  The walk of the search's run. Own text.
-/
import Derived.Test.YtiokmfmcmfbjoaaRunV
import Derived.Handy
namespace Go.Proofs.Ytiokmfmcmfbjoaa
open Go.RowKit
set_option linter.unusedVariables false
set_option maxRecDepth 100000 in
set_option maxHeartbeats 8000000 in
theorem run_step (w0 : World) (b ba bs bl bh bf bt d : Nat) (st : Int) (F T lo hi : Nat → Int) (bv : Value) (far : Int) (w : World) (P : Prof) (oi : Option Addr) (ci : Nat) (oc : Option Addr) (cc : Nat) (ov : Option Addr) (cv : Nat) (tv m : Nat → Int)
    (G : Geo w0.heap.size bs bl bh bf bt) (hS : SrcA w0 b ba bs bl bh bf bt d st (distV P d st tv) F T lo hi bv far w) (hh : HeldAt w0 b P oi ci oc cc ov cv) (hok : OkProf P) (tt : Int) (hA : AskAt w0 ba tv st tt) (hd : d = P.inks.length) (htt : (d : Int) * 255 ≤ tt) (hst : 1 ≤ st ∧ st ≤ 255)
    (hbox : BoxOk d st F T) (htv : ∀ o, o < 3 → tv o = labV P (candL d st m) o) (htb : ∀ o, o < 3 → -65535 ≤ tv o ∧ tv o ≤ 65535)
    (ih : ∀ F' T' lo hi bv far w, widthV F' T' d < widthV F T d → BoxOk d st F' T' → SrcA w0 b ba bs bl bh bf bt d st (distV P d st tv) F' T' lo hi bv far w → Calls Try.prog 23 #[.pointer (some ⟨bs, 0, none⟩)] w (RetRun w0 b ba bs bl bh bf bt d st (distV P d st tv) F' T' bv far m)) :
    Calls Try.prog 23 #[.pointer (some ⟨bs, 0, none⟩)] w (RetRun w0 b ba bs bl bh bf bt d st (distV P d st tv) F T bv far m) := by
  have c6 : w.cell? ⟨bs, 6, none⟩ = some (.slice (some ⟨bf, 0, none⟩) d d) := hS.s.at' 6 (by omega)
  have hf := hok.few
  have d1 : 1 ≤ d := by omega
  have d4 : d ≤ 4 := by omega
  have HBD : Hid (∀ lo hi W, SrcA w0 b ba bs bl bh bf bt d st (distV P d st tv) F T lo hi bv far W → Calls Try.prog 27 #[.pointer (some ⟨bs, 0, none⟩)] W (RetBound w0 b ba bs bl bh bf bt d st (distV P d st tv) F T bv far m)) := fun lo hi W h => bound_any w0 b ba bs bl bh bf bt d st (distV P d st tv) F T lo hi bv far W P oi ci oc cc ov cv tv m G h hh hok tt hA hd hst hbox htv htb
  have HS0 := Lib.hid hS
  have HG := Lib.hid G
  have HH := Lib.hid hh
  have HOK := Lib.hid hok
  have HA := Lib.hid hA
  have HB := Lib.hid hbox
  have HTV := Lib.hid (And.intro htv htb)
  have HD := Lib.hid hd
  have IH := Lib.hid ih
  obtain ⟨st1, st2⟩ := hst
  clear hS G hh hok hA hbox htv htb hd hf ih
  go_enter Try.func23, Try.ntmps23
  go_wp2
  go_loopw [2, 3, 4, 19] (fun s2 s3 s4 s19 wr => ∃ (k : Nat) (sum wide : Int) (axis : Nat), k ≤ d ∧ s2 = .int .i64 sum ∧ s3 = .int .i64 wide ∧ s4 = .int .i64 axis ∧ s19 = .int .i64 k ∧ Hid (RunL F T k sum wide axis) ∧ Hid (SrcA w0 b ba bs bl bh bf bt d st (distV P d st tv) F T lo hi bv far wr)) (fun _ _ _ s19 _ => d - (intOf s19).toNat)
  case atStart => exact ⟨0, 0, 0, 0, by omega, rfl, rfl, rfl, rfl, RunL.start F T, HS0⟩
  case round =>
    clear HS0 c6
    obtain ⟨k, sum, wide, axis, hk, rfl, rfl, rfl, rfl, HL, HS⟩ := hrel
    by_cases hlt : k < d
    · obtain ⟨b0, b1, b2⟩ := HB.out k hlt
      have b3 := HB.out.le st1 hlt
      have hx0 : 0 ≤ F k * st := Int.mul_nonneg b0 (by omega)
      have hx1 : F k * st ≤ T k * st := Int.mul_le_mul_of_nonneg_right b1 (by omega)
      have l1 := HL.out.s
      have l2 := HL.out.w
      have e0 : wr.cell? ⟨bs, 6, none⟩ = some (.slice (some ⟨bf, 0, none⟩) d d) := HS.out.s.at' 6 (by omega)
      have e1 : wr.cell? ⟨bs, 7, none⟩ = some (.slice (some ⟨bt, 0, none⟩) d d) := HS.out.s.at' 7 (by omega)
      have e2 : wr.cell? ⟨bs, 1, none⟩ = some (.pointer (some ⟨ba, 0, none⟩)) := HS.out.s.at' 1 (by omega)
      have e3 : wr.cell? ⟨ba, 3, none⟩ = some (.int .i64 st) := (HA.out.below HS.out.bel).step
      have e4 := HS.out.fr.at' k hlt
      have e5 := HS.out.up.at' k hlt
      have HNW : Hid (wide < T k - F k → RunL F T (k + 1) (sum + F k * st) (T k - F k) k) := fun h => HL.out.wider ⟨hx0, by omega⟩ b3 b0 h
      have HNS : Hid (¬ wide < T k - F k → RunL F T (k + 1) (sum + F k * st) wide axis) := fun h => HL.out.same ⟨hx0, by omega⟩ h
      obtain ⟨Fk, hFk⟩ : ∃ Fk, Fk = F k := ⟨_, rfl⟩
      obtain ⟨Tk, hTk⟩ : ∃ Tk, Tk = T k := ⟨_, rfl⟩
      rw [← hFk] at b0 b1 hx0 hx1 e4 HNW HNS
      rw [← hTk] at b1 b2 b3 hx1 e5 HNW HNS
      obtain ⟨A, hAA⟩ : ∃ A, A = Fk * st := ⟨_, rfl⟩
      obtain ⟨C, hCC⟩ : ∃ C, C = Tk * st := ⟨_, rfl⟩
      rw [← hAA] at hx0 hx1 HNW HNS
      rw [← hCC] at b2 hx1
      have w1 : IntKind.i64.wrap (Fk * st) = A := by rw [← hAA]; exact IntWalk.i64_in _ (by omega)
      have w2 : IntKind.i64.wrap (sum + A) = sum + A := IntWalk.i64_in _ (by omega)
      have w3 : IntKind.i64.wrap (Tk - Fk) = Tk - Fk := IntWalk.i64_in _ (by omega)
      have k0 : (0 : Int) ≤ (k : Int) := by omega
      have kd : (k : Int) < (d : Int) := by omega
      clear hAA hCC hFk hTk
      go_wp2
      go_quiet (fail)
      generalize nq = nz
      go_wp2
      go_quiet (fail)
      have HS3 := Lib.hid (HS.out.drewN (nz + nq))
      by_cases hw : wide < Tk - Fk
      · have HN := Lib.hid (HNW.out hw)
        go_wp2
        go_roundw
        case rel => exact ⟨k + 1, _, _, _, by omega, rfl, rfl, rfl, by go_num, HN, HS3⟩
        case measure => simp [intOf]; omega
      · have HN := Lib.hid (HNS.out (by omega))
        go_wp2
        go_roundw
        case rel => exact ⟨k + 1, _, _, _, by omega, rfl, rfl, rfl, by go_num, HN, HS3⟩
        case measure => simp [intOf]; omega
    · obtain rfl : d = k := by omega
      clear hlt
      have l1 := HL.out.s
      have l2 := HL.out.w
      have e2 : wr.cell? ⟨bs, 1, none⟩ = some (.pointer (some ⟨ba, 0, none⟩)) := HS.out.s.at' 1 (by omega)
      have e3 : wr.cell? ⟨ba, 4, none⟩ = some (.int .i64 tt) := (HA.out.below HS.out.bel).tot
      have htot : ¬ tt < sum := by omega
      go_upto_region 10 with fail
      go_cut [73] (fun s73 wx => ∃ x : Bool, s73 = .bool x ∧ Hid (HasB bv x) ∧ Hid (SrcA w0 b ba bs bl bh bf bt d st (distV P d st tv) F T lo hi bv far wx))
      case first =>
        have e4 : wr.cell? ⟨bs, 2, none⟩ = some bv := HS.out.s.at' 2 (by omega)
        rcases HS.out.be with hb | ⟨g, M, hb, _⟩
        · rw [hb] at e4
          have hx : Hid (HasB bv false) := ⟨fun h => (by cases h), fun h => absurd hb h⟩
          go_wp2_with fail
          go_meet
          exact ⟨false, by simp, hx, HS⟩
        · rw [hb] at e4
          have hx : Hid (HasB bv true) := ⟨fun _ h => (by rw [hb] at h; simp at h), fun _ => rfl⟩
          go_wp2_with fail
          go_meet
          exact ⟨true, by simp, hx, HS⟩
      case rest =>
        clear e2 e3
        obtain ⟨x, rfl, HX, HS⟩ := hcut
        go_upto_if 73 with fail
        go_cut [7] (fun s7 wx => Hid (∃ lo hi, SrcA w0 b ba bs bl bh bf bt d st (distV P d st tv) F T lo hi bv far wx))
        case first =>
          cases x with
          | false =>
            go_wp2_with fail
            go_meet
            exact ⟨_, _, HS.out⟩
          | true =>
            obtain ⟨w6, rfl⟩ : ∃ w6 : World, w6 = wc := ⟨_, rfl⟩
            have hne := HX.out.1 rfl
            have hfar := HS.out.be.nonneg hne
            have HNE := Lib.hid hne
            clear hne HX
            go_upto_region 12 with (go_at_call 27; refine (HBD.out lo hi _ HS.out).mono ?_; rintro e w3 ⟨n, lo', hi', rfl, hin, hs⟩; have HIN := Lib.hid hin; have HS3 := Lib.hid hs; clear hin hs)
            have e3 : w3.cell? ⟨bs, 3, none⟩ = some (.int .i64 far) := HS3.out.s.at' 3 (by omega)
            have HRET : Hid ((InB d F T m → far = 0) → RetRun w0 b ba bs bl bh bf bt d st (distV P d st tv) F T bv far m (.returned (.tuple #[])) w3) := fun h => ⟨lo', hi', bv, far, rfl, HS3.out, fun _ => ⟨HNE.out, Int.le_refl _⟩, fun hi => ⟨HNE.out, h hi⟩⟩
            by_cases hlt : far < n
            · have HR := Lib.hid (HRET.out fun hi => by have := HIN.out hi; omega)
              go_wp2
              go_returns
              exact HR.out
            · by_cases heq : n = far
              · have heq' : far = n := heq.symm
                clear heq
                subst heq'
                rcases HS3.out.be with hb | ⟨g, M, hb, -, -, -, -, -, -, hM, -, -, -⟩
                · exact absurd hb HNE.out
                · have e2 : w3.cell? ⟨bs, 2, none⟩ = some (.slice (some ⟨g, 0, none⟩) d d) := by
                    have h := HS3.out.s.at' 2 (by omega)
                    rw [hb] at h
                    exact h
                  have HBF := Lib.hid (before_any bs ba bf g d st F (fun i => M i * st) w3 (HS3.out.s.at' 1 (by omega)) e2 (HS3.out.s.at' 6 (by omega)) (HA.out.below HS3.out.bel).step HS3.out.fr hM d4 ⟨st1, st2⟩ (fun i hi => ⟨(HB.out i hi).1, by
                    have h1 := HB.out i hi
                    have h2 : F i * st ≤ T i * st := Int.mul_le_mul_of_nonneg_right h1.2.1 (by omega)
                    omega⟩))
                  clear hb hM e2
                  obtain ⟨y, hy⟩ : ∃ y, y = beforeV (fun i => F i * st) (fun i => M i * st) d 0 := ⟨_, rfl⟩
                  rw [← hy] at HBF
                  clear hy
                  cases y with
                  | false =>
                    have HR := Lib.hid (HRET.out fun hi => HIN.out hi)
                    go_wp2_with (go_at_call 28; refine HBF.out.mono ?_; rintro e w5 ⟨rfl, rfl⟩)
                    go_returns
                    exact HR.out
                  | true =>
                    go_wp2_with (go_at_call 28; refine HBF.out.mono ?_; rintro e w5 ⟨rfl, rfl⟩)
                    go_meet
                    exact ⟨_, _, HS3.out⟩
              · go_wp2_with fail
                go_meet
                exact ⟨_, _, HS3.out⟩
        case rest =>
          clear HX HS
          obtain ⟨lo1, hi1, hs1⟩ := hcut.out
          have HS := Lib.hid hs1
          clear hs1 hcut
          by_cases hw0 : wide = 0
          · have HFT : Hid (∀ i, i < d → F i = T i) := fun i hi => by
              have h1 := HL.out.all i hi
              have h2 := (HB.out i hi).2.1
              omega
            subst hw0
            obtain ⟨w9, rfl⟩ : ∃ w9 : World, w9 = wc := ⟨_, rfl⟩
            have e6 : w9.cell? ⟨bs, 6, none⟩ = some (.slice (some ⟨bf, 0, none⟩) d d) := HS.out.s.at' 6 (by omega)
            have mk := run_makeArr (P := Try.prog) elemInt Try.underlying24 (.int .i64 0) rfl d (by omega) (by omega)
            have H0 : Hid (FTab (Value.int .i64) (w9.alloc (.cells (madeArr (.int .i64 0) d) 3)) w9.heap.size d (upTo 0 (fun i => F i * st) (fun _ => 0)) ∧ Below w9.heap.size w9 (w9.alloc (.cells (madeArr (.int .i64 0) d) 3)) ∧ w9.heap.size < (w9.alloc (.cells (madeArr (.int .i64 0) d) 3)).heap.size) :=
              ⟨(FTab.made (Value.int .i64) w9 d 0 3).congr fun i hi => (if_neg (by omega)).symm, balloc (Below.refl _ w9) _, by simp⟩
            have hlb : bf < w9.heap.size := HS.out.zf
            have hls : bs < w9.heap.size := HS.out.zs
            go_wp2
            go_loopw [108] (fun i wr => ∃ k : Nat, k ≤ d ∧ i = .int .i64 k ∧ Hid (FTab (Value.int .i64) wr w9.heap.size d (upTo k (fun i => F i * st) (fun _ => 0)) ∧ Below w9.heap.size w9 wr ∧ w9.heap.size < wr.heap.size)) (fun i _ => d - (intOf i).toNat)
            case atStart => exact ⟨0, by omega, rfl, H0⟩
            case round =>
              clear H0 mk e6
              obtain ⟨k, hk, rfl, HR⟩ := hrel
              have HSW := Lib.hid (HS.out.below HR.out.2.1)
              by_cases hlt : k < d
              · obtain ⟨b0, b1, b2⟩ := HB.out k hlt
                have b4 : 0 ≤ F k * st := Int.mul_nonneg b0 (by omega)
                have b5 : F k * st ≤ T k * st := Int.mul_le_mul_of_nonneg_right b1 (by omega)
                have e0 : wr.cell? ⟨bs, 1, none⟩ = some (.pointer (some ⟨ba, 0, none⟩)) := HSW.out.s.at' 1 (by omega)
                have e3 : wr.cell? ⟨ba, 3, none⟩ = some (.int .i64 st) := (HA.out.below HSW.out.bel).step
                have e4 := HSW.out.fr.at' k hlt
                have e5 := HR.out.1.at' k hlt
                have e7 := HR.out.1.fz k
                obtain ⟨Fk, hFk⟩ : ∃ Fk, Fk = F k := ⟨_, rfl⟩
                rw [← hFk] at b0 b4 b5 e4
                have w1 : IntKind.i64.wrap (Fk * st) = Fk * st := IntWalk.i64_in _ (by omega)
                have k0 : (0 : Int) ≤ (k : Int) := by omega
                have kd : (k : Int) < (d : Int) := by omega
                have HNX : Hid (FTab (Value.int .i64) (wr.setCell ⟨w9.heap.size, k, none⟩ (.int .i64 (Fk * st))) w9.heap.size d (upTo (k + 1) (fun i => F i * st) (fun _ => 0)) ∧ Below w9.heap.size w9 (wr.setCell ⟨w9.heap.size, k, none⟩ (.int .i64 (Fk * st))) ∧ w9.heap.size < (wr.setCell ⟨w9.heap.size, k, none⟩ (.int .i64 (Fk * st))).heap.size) :=
                  ⟨(HR.out.1.set hlt (Fk * st)).congr fun i _ => upTo_next (by rw [hFk]) i, HR.out.2.1.setCell (p := ⟨w9.heap.size, k, none⟩) (Nat.le_refl _) _, by simpa using HR.out.2.2⟩
                clear hFk
                go_wp2
                go_roundw
                case rel => exact ⟨k + 1, by omega, by go_num, HNX⟩
                case measure => simp [intOf]; omega
              · obtain rfl : d = k := by omega
                clear hlt
                obtain ⟨w7, rfl⟩ : ∃ w7 : World, w7 = wr := ⟨_, rfl⟩
                have HT : Hid (FTab (Value.int .i64) w7 w9.heap.size d (fun i => F i * st)) := HR.out.1.congr fun i hi => if_pos hi
                have HB7 := Lib.hid HR.out.2
                clear HR
                obtain ⟨D, hD⟩ : ∃ D, D = distV P d st tv F := ⟨_, rfl⟩
                have HDZ : Hid (InB d F T m → D = 0) := fun hin => by
                  rw [hD]
                  exact distV_self HTV.out.1 fun i hi => by
                    have h1 := hin i hi
                    have h2 := HFT.out i hi
                    omega
                have hD0 : 0 ≤ D := by rw [hD]; exact distV_nonneg _ _ _ _ _
                have HSET : Hid (∀ W, Below w7.heap.size w7 W → (bv ≠ .slice none 0 0 → D ≤ far) → RetRun w0 b ba bs bl bh bf bt d st (distV P d st tv) F T bv far m (.returned (.tuple #[])) ((W.setCell ⟨bs, 2, none⟩ (.slice (some ⟨w9.heap.size, 0, none⟩) d d)).setCell ⟨bs, 3, none⟩ (.int .i64 D))) := fun W hb hle => by
                  have hs := HS.out
                  have z1 := hs.zs
                  have z2 := hs.zl
                  have z3 := hs.zh
                  have z4 := hs.zf
                  have z5 := hs.zt
                  exact ⟨lo1, hi1, _, D, rfl, (HSW.out.below hb).setBest HG.out (by omega) (by omega) (by omega) (by omega) (by omega) (Nat.lt_of_lt_of_le HB7.out.2 hb.size) (HT.out.below hb HB7.out.2) (fun i hi => ⟨Int.mul_nonneg (HB.out i hi).1 (by omega), by
                    have h1 := HB.out i hi
                    have h2 := HFT.out i hi
                    rw [h2]
                    exact h1.2.2⟩) hD hD0, fun hne => ⟨by simp, hle hne⟩, fun hin => ⟨by simp, HDZ.out hin⟩⟩
                have HSTAY : Hid (∀ W, Below w7.heap.size w7 W → bv ≠ .slice none 0 0 → (D = far ∨ far < D) → RetRun w0 b ba bs bl bh bf bt d st (distV P d st tv) F T bv far m (.returned (.tuple #[])) W) := fun W hb hne hle =>
                  ⟨lo1, hi1, bv, far, rfl, HSW.out.below hb, fun _ => ⟨hne, Int.le_refl _⟩, fun hin => ⟨hne, by
                    have h1 := HDZ.out hin
                    have h2 := HS.out.be.nonneg hne
                    omega⟩⟩
                obtain ⟨L0, hL0⟩ : ∃ L, L = labV P (candL d st F) 0 := ⟨_, rfl⟩
                obtain ⟨L1, hL1⟩ : ∃ L, L = labV P (candL d st F) 1 := ⟨_, rfl⟩
                obtain ⟨L2, hL2⟩ : ∃ L, L = labV P (candL d st F) 2 := ⟨_, rfl⟩
                have HQ : Hid (∀ W, Below w7.heap.size w7 W → Calls Try.prog 16 #[.pointer (some ⟨b, 0, none⟩), .slice (some ⟨w9.heap.size, 0, none⟩) d d] W (fun e w' => e = .returned (.agg #[.int .i64 L0, .int .i64 L1, .int .i64 L2]) ∧ Below W.heap.size W w')) := fun W hb => by
                  have hs := HSW.out.below hb
                  have h := pquick_any b P oi ci oc cc ov cv (some ⟨w9.heap.size, 0, none⟩) (candL d st F) d W (HH.out.below hs.bel) HOK.out (HT.out.below hb HB7.out.2).flat ⟨by rw [candL_len, HD.out], fun i hi => by
                    rw [candL_len] at hi
                    have e : (candL d st F)[i]'(by rw [candL_len]; exact hi) = F i * st := by
                      unfold candL
                      rw [List.getElem_map, List.getElem_range]
                    rw [e]
                    have h1 := HB.out i hi
                    have h2 := HFT.out i hi
                    exact ⟨Int.mul_nonneg h1.1 (by omega), by rw [h2]; exact h1.2.2⟩⟩
                  rw [candL_len] at h
                  refine h.mono fun e w' hr => ?_
                  rw [hL0, hL1, hL2]
                  exact hr
                obtain ⟨T0, hT0⟩ : ∃ t, t = tv 0 := ⟨_, rfl⟩
                obtain ⟨T1, hT1⟩ : ∃ t, t = tv 1 := ⟨_, rfl⟩
                obtain ⟨T2, hT2⟩ : ∃ t, t = tv 2 := ⟨_, rfl⟩
                have HFA : Hid (∀ W, Calls Try.prog 29 #[.agg #[.int .i64 L0, .int .i64 L1, .int .i64 L2], .agg #[.int .i64 T0, .int .i64 T1, .int .i64 T2]] W (fun e w' => e = .returned (.int .i64 D) ∧ Below W.heap.size W w')) := fun W => by
                  have q0 := labV_bd HOK.out (candL d st F) 0
                  have q1 := labV_bd HOK.out (candL d st F) 1
                  have q2 := labV_bd HOK.out (candL d st F) 2
                  have t0 := HTV.out.2 0 (by omega)
                  have t1 := HTV.out.2 1 (by omega)
                  have t2 := HTV.out.2 2 (by omega)
                  rw [← hL0] at q0
                  rw [← hL1] at q1
                  rw [← hL2] at q2
                  rw [← hT0] at t0
                  rw [← hT1] at t1
                  rw [← hT2] at t2
                  have h := far_any L0 L1 L2 T0 T1 T2 W (by omega) (by omega) (by omega) (by omega) (by omega) (by omega)
                  have e : (L0 - T0) * (L0 - T0) + (L1 - T1) * (L1 - T1) + (L2 - T2) * (L2 - T2) = D := by
                    rw [hD, hL0, hL1, hL2, hT0, hT1, hT2]
                    rfl
                  rw [e] at h
                  exact h
                have i0 : w7.cell? ⟨bs, 0, none⟩ = some (.pointer (some ⟨b, 0, none⟩)) := HSW.out.s.at' 0 (by omega)
                have i1 : w7.cell? ⟨bs, 1, none⟩ = some (.pointer (some ⟨ba, 0, none⟩)) := HSW.out.s.at' 1 (by omega)
                have ask := HA.out.below HSW.out.bel
                have i2 := ask.t0
                have i3 := ask.t1
                have i4 := ask.t2
                rw [← hT0] at i2
                rw [← hT1] at i3
                rw [← hT2] at i4
                have hS : Hid (∀ w', Below w7.heap.size w7 w' → (w'.cell? ⟨bs, 0, none⟩ = some (.pointer (some ⟨b, 0, none⟩)) ∧ w'.cell? ⟨bs, 1, none⟩ = some (.pointer (some ⟨ba, 0, none⟩)) ∧ w'.cell? ⟨ba, 0, none⟩ = some (.int .i64 T0) ∧ w'.cell? ⟨ba, 1, none⟩ = some (.int .i64 T1) ∧ w'.cell? ⟨ba, 2, none⟩ = some (.int .i64 T2))) := fun w' hb => ⟨keepCell hb i0, keepCell hb i1, keepCell hb i2, keepCell hb i3, keepCell hb i4⟩
                clear ask hL0 hL1 hL2 hT0 hT1 hT2 hD
                go_upto_region 20 with fail
                go_region_held3 (fun w' => w'.cell? ⟨bs, 0, none⟩ = some (.pointer (some ⟨b, 0, none⟩)) ∧ w'.cell? ⟨bs, 1, none⟩ = some (.pointer (some ⟨ba, 0, none⟩)) ∧ w'.cell? ⟨ba, 0, none⟩ = some (.int .i64 T0) ∧ w'.cell? ⟨ba, 1, none⟩ = some (.int .i64 T1) ∧ w'.cell? ⟨ba, 2, none⟩ = some (.int .i64 T2))
                  ((first | assumption | (refine hS.out _ ?_; (first | assumption | go_grown))))
                  (first | fail | (go_at_call 16; (with_reducible refine (HQ.out _ (by first | exact Below.refl _ _ | go_grown)).mono ?_); rintro e w3 ⟨rfl, hb3⟩; have hz3 : Below w7.heap.size w7 w3 := (by first | exact hb3 | exact bthen (by go_grown) hb3)) | (go_at_call 29; (with_reducible refine (HFA.out _).mono ?_); rintro e w4 ⟨rfl, hb4⟩; have hz4 : Below w7.heap.size w7 w4 := (by first | exact bthen hz3 hb4 | exact bthen (bthen hz3 (by go_grown)) hb4)))
                have HSW4 := Lib.hid (HSW.out.below hz4)
                have HSET4 := Lib.hid (HSET.out w4 hz4)
                have HSTAY4 := Lib.hid (HSTAY.out w4 hz4)
                have z3 : w4.cell? ⟨bs, 3, none⟩ = some (.int .i64 far) := HSW4.out.s.at' 3 (by omega)
                have f2 := HSW4.out.s.fz 2
                have f3 := HSW4.out.s.fz 3
                clear hz4 hb4 hz3 hb3 hS HFA HQ HSET HSTAY i0 i1 i2 i3 i4 HSW HS
                rcases HSW4.out.be with hb | ⟨g, M, hb, -, -, -, -, -, -, hM, -, -, -⟩
                · have z2 : w4.cell? ⟨bs, 2, none⟩ = some (.slice none 0 0) := by
                    have h := HSW4.out.s.at' 2 (by omega)
                    rw [hb] at h
                    exact h
                  have eqn := fun W => run_eql_nil none 0 0 W
                  simp only [Option.isNone_none] at eqn
                  have HR := Lib.hid (HSET4.out (fun hne => absurd hb hne))
                  clear hb
                  go_wp2
                  go_returns
                  exact HR.out
                · have z2 : w4.cell? ⟨bs, 2, none⟩ = some (.slice (some ⟨g, 0, none⟩) d d) := by
                    have h := HSW4.out.s.at' 2 (by omega)
                    rw [hb] at h
                    exact h
                  have hne : bv ≠ .slice none 0 0 := by rw [hb]; simp
                  have eqn := fun W => run_eql_nil (some ⟨g, 0, none⟩) d d W
                  simp only [Option.isNone_some] at eqn
                  by_cases hlt : D < far
                  · have HR := Lib.hid (HSET4.out (fun _ => by omega))
                    clear hb hne
                    go_wp2
                    go_returns
                    exact HR.out
                  · by_cases heq : D = far
                    · subst heq
                      have HBF := Lib.hid (before_any bs ba bf g d st F (fun i => M i * st) w4 (HSW4.out.s.at' 1 (by omega)) z2 (HSW4.out.s.at' 6 (by omega)) (HA.out.below HSW4.out.bel).step HSW4.out.fr hM d4 ⟨st1, st2⟩ (fun i hi => ⟨(HB.out i hi).1, by
                        have h1 := HB.out i hi
                        have h2 : F i * st ≤ T i * st := Int.mul_le_mul_of_nonneg_right h1.2.1 (by omega)
                        omega⟩))
                      obtain ⟨y, hy⟩ : ∃ y, y = beforeV (fun i => F i * st) (fun i => M i * st) d 0 := ⟨_, rfl⟩
                      rw [← hy] at HBF
                      clear hy
                      cases y with
                      | false =>
                        have HR := Lib.hid (HSTAY4.out hne (.inl rfl))
                        clear hb hne hM
                        go_wp2_with (go_at_call 28; refine HBF.out.mono ?_; rintro e w5 ⟨rfl, rfl⟩)
                        go_returns
                        exact HR.out
                      | true =>
                        have HR := Lib.hid (HSET4.out (fun _ => Int.le_refl _))
                        clear hb hne hM
                        go_wp2_with (go_at_call 28; refine HBF.out.mono ?_; rintro e w5 ⟨rfl, rfl⟩)
                        go_returns
                        exact HR.out
                    · have HR := Lib.hid (HSTAY4.out hne (.inr (by omega)))
                      clear hb hne hM
                      go_wp2
                      go_returns
                      exact HR.out
          · have hax := HL.out.ax hw0
            obtain ⟨w9, rfl⟩ : ∃ w9 : World, w9 = wc := ⟨_, rfl⟩
            have had := hax.1
            have hwd := hax.2
            have HBA := HB.out axis had
            have hT255 := HB.out.le st1 had
            obtain ⟨Fa, hFa⟩ : ∃ x, x = F axis := ⟨_, rfl⟩
            obtain ⟨Ta, hTa⟩ : ∃ x, x = T axis := ⟨_, rfl⟩
            obtain ⟨mid, hmid⟩ : ∃ x, x = (Fa + Ta) / 2 := ⟨_, rfl⟩
            rw [← hFa, ← hTa] at hwd HBA
            rw [← hTa] at hT255
            have m1 : Fa ≤ mid := by omega
            have m2 : mid < Ta := by omega
            have x1 : IntKind.i64.wrap (Fa + Ta) = Fa + Ta := IntWalk.i64_in _ (by omega)
            have x2 : (Fa + Ta).tdiv 2 = mid := by rw [Int.tdiv_eq_ediv_of_nonneg (by omega)]; exact hmid.symm
            have x3 : IntKind.i64.wrap mid = mid := IntWalk.i64_in _ (by omega)
            have x4 : IntKind.i64.wrap (mid + 1) = mid + 1 := IntWalk.i64_in _ (by omega)
            have e6 : w9.cell? ⟨bs, 6, none⟩ = some (.slice (some ⟨bf, 0, none⟩) d d) := HS.out.s.at' 6 (by omega)
            have e7 : w9.cell? ⟨bs, 7, none⟩ = some (.slice (some ⟨bt, 0, none⟩) d d) := HS.out.s.at' 7 (by omega)
            have e1 : w9.cell? ⟨bf, axis, none⟩ = some (.int .i64 Fa) := by rw [hFa]; exact HS.out.fr.at' axis had
            have e2 : w9.cell? ⟨bt, axis, none⟩ = some (.int .i64 Ta) := by rw [hTa]; exact HS.out.up.at' axis had
            have e3 := HS.out.up.fz axis
            have a0 : (0 : Int) ≤ (axis : Int) := by omega
            have ad : (axis : Int) < (d : Int) := by omega
            have HS1 : Hid (∀ q, SrcA w0 b ba bs bl bh bf bt d st (distV P d st tv) F (setAt axis mid T) lo1 hi1 bv far ((w9.drewN q).setCell ⟨bt, axis, none⟩ (.int .i64 mid))) := fun q => (HS.out.drewN q).setUp HG.out had mid
            have HC1 : Hid (∀ W, SrcA w0 b ba bs bl bh bf bt d st (distV P d st tv) F (setAt axis mid T) lo1 hi1 bv far W → Calls Try.prog 23 #[.pointer (some ⟨bs, 0, none⟩)] W (RetRun w0 b ba bs bl bh bf bt d st (distV P d st tv) F (setAt axis mid T) bv far m)) := fun W h =>
              IH.out _ _ _ _ _ _ _ (width_low had (by rw [← hTa]; exact m2)) (HB.out.low st1 (by rw [← hFa]; exact m1) (by rw [← hTa]; exact m2)) h
            have HC2 : Hid (∀ lo hi bv far W, SrcA w0 b ba bs bl bh bf bt d st (distV P d st tv) (setAt axis (mid + 1) F) T lo hi bv far W → Calls Try.prog 23 #[.pointer (some ⟨bs, 0, none⟩)] W (RetRun w0 b ba bs bl bh bf bt d st (distV P d st tv) (setAt axis (mid + 1) F) T bv far m)) := fun lo hi bv far W h =>
              IH.out _ _ _ _ _ _ _ (width_high had (by rw [← hFa]; exact m1)) (HB.out.high (by rw [← hFa]; exact m1) (by rw [← hTa]; exact m2)) h
            have HQ1 := Lib.hid (And.intro hFa hTa)
            clear hFa hTa hmid hax HBA
            go_wp2
            go_quiet (fail)
            have HS2 := Lib.hid (HS1.out nq)
            go_upto_region 25 with fail
            clear e6 e7 e1 e2 e3 HS1
            generalize (w9.drewN nq).setCell ⟨bt, axis, none⟩ (.int .i64 mid) = W2 at *
            go_upto_region 26 with (go_at_call 23; refine (HC1.out _ HS2.out).mono ?_; rintro e w5 ⟨lo2, hi2, bv2, far2, rfl, hs5, hp5, hi5⟩; have HS5 := Lib.hid hs5; have HP5 := Lib.hid (And.intro hp5 hi5); clear hs5 hp5 hi5)
            have e6 : w5.cell? ⟨bs, 6, none⟩ = some (.slice (some ⟨bf, 0, none⟩) d d) := HS5.out.s.at' 6 (by omega)
            have e7 : w5.cell? ⟨bs, 7, none⟩ = some (.slice (some ⟨bt, 0, none⟩) d d) := HS5.out.s.at' 7 (by omega)
            have e1 : w5.cell? ⟨bf, axis, none⟩ = some (.int .i64 Fa) := by rw [HQ1.out.1]; exact HS5.out.fr.at' axis had
            have e2 : w5.cell? ⟨bt, axis, none⟩ = some (.int .i64 mid) := by have h := HS5.out.up.at' axis had; rw [setAt_self] at h; exact h
            have e3 := HS5.out.up.fz axis
            have e4 := HS5.out.fr.fz axis
            have g1 := HG.out.sf
            have g2 := HG.out.st
            have g3 := HG.out.ft
            have HS6 : Hid (SrcA w0 b ba bs bl bh bf bt d st (distV P d st tv) (setAt axis (mid + 1) F) T lo2 hi2 bv2 far2 ((w5.setCell ⟨bf, axis, none⟩ (.int .i64 (mid + 1))).setCell ⟨bt, axis, none⟩ (.int .i64 Ta))) := by
              refine ((HS5.out.setFr HG.out had (mid + 1)).setUp HG.out had Ta).congr (fun _ _ => rfl) (fun i _ => ?_) (fun _ _ => rfl) (fun _ _ => rfl)
              by_cases e : i = axis
              · subst e; rw [if_pos rfl, HQ1.out.2]
              · rw [if_neg e, setAt_ne e]
            go_region
            have HS7 := Lib.hid HS6.out.drew
            clear e6 e7 e1 e2 e3 e4 g1 g2 g3 HS6
            generalize ((w5.setCell ⟨bf, axis, none⟩ (.int .i64 (mid + 1))).setCell ⟨bt, axis, none⟩ (.int .i64 Ta)).drew = W6 at *
            go_upto_region 28 with (go_at_call 23; refine (HC2.out _ _ _ _ _ HS7.out).mono ?_; rintro e w7 ⟨lo3, hi3, bv3, far3, rfl, hs7, hp7, hi7⟩; have HS8 := Lib.hid hs7; have HP8 := Lib.hid (And.intro hp7 hi7); clear hs7 hp7 hi7)
            have e6 : w7.cell? ⟨bs, 6, none⟩ = some (.slice (some ⟨bf, 0, none⟩) d d) := HS8.out.s.at' 6 (by omega)
            have e1 : w7.cell? ⟨bf, axis, none⟩ = some (.int .i64 (mid + 1)) := by have h := HS8.out.fr.at' axis had; rw [setAt_self] at h; exact h
            have e4 := HS8.out.fr.fz axis
            have HFIN : Hid (RetRun w0 b ba bs bl bh bf bt d st (distV P d st tv) F T bv far m (.returned (.tuple #[])) (w7.setCell ⟨bf, axis, none⟩ (.int .i64 Fa))) := by
              refine ⟨lo3, hi3, bv3, far3, rfl, (HS8.out.setFr HG.out had Fa).congr (fun i _ => ?_) (fun _ _ => rfl) (fun _ _ => rfl) (fun _ _ => rfl), fun hne => ?_, fun hin => ?_⟩
              · by_cases e : i = axis
                · subst e; rw [if_pos rfl, HQ1.out.1]
                · rw [if_neg e, setAt_ne e]
              · obtain ⟨p1, p2⟩ := HP5.out.1 hne
                obtain ⟨p3, p4⟩ := HP8.out.1 p1
                exact ⟨p3, by omega⟩
              · rcases inB_part (a := axis) (mid := mid) hin with h | h
                · obtain ⟨p1, p2⟩ := HP5.out.2 h
                  obtain ⟨p3, p4⟩ := HP8.out.1 p1
                  have p5 := HS8.out.be.nonneg p3
                  exact ⟨p3, by omega⟩
                · exact HP8.out.2 h
            go_wp2
            go_returns
            exact HFIN.out
end Go.Proofs.Ytiokmfmcmfbjoaa
