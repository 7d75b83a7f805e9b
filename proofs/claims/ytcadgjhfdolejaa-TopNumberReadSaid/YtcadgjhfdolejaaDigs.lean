/-
  linear.digits: plain, and its walk. Printed by gen_digs.py. Own text.
-/
import Derived.Test.YtcadgjhfdolejaaSum
namespace Go.Proofs.Ytcadgjhfdolejaa
open Go.RowKit
set_option linter.unusedVariables false
def strB (l : List UInt8) : ByteArray := ⟨l.toArray⟩
theorem strB_size (l : List UInt8) : (strB l).size = l.length := by simp [strB, ByteArray.size]
def encC (c : UInt8) : List Value := [.int .u8 c.toNat]
def dC (d : Nat) : UInt8 := UInt8.ofNat (48 + d)
theorem dC_nat {d : Nat} (h : d < 10) : (dC d).toNat = 48 + d := by
  unfold dC
  rw [UInt8.toNat_ofNat']
  omega
theorem Flat.chr {w : World} {oa : Option Addr} {xs : List UInt8} (h : Flat w 1 encC oa xs) {i : Nat} (hi : i < xs.length) :
    ∃ b off, oa = some ⟨b, off, none⟩ ∧ w.cell? ⟨b, off + i, none⟩ = some (.int .u8 (xs[i].toNat : Int)) := by
  obtain ⟨v0, h0, b, off, e, c0⟩ := h i hi 0 (by omega)
  simp only [encC, List.getElem?_cons_zero, Option.some.injEq] at h0
  subst h0
  exact ⟨b, off, e, by simpa using c0⟩
/-- Bytes in memory as a text. -/
theorem conv_flat {w : World} {b off c : Nat} {l : List UInt8} (h : Flat w 1 encC (some ⟨b, off, none⟩) l) : (convert 27 9 (.slice (some ⟨b, off, none⟩) l.length c)).run Try.prog w = .ok (.string (strB l)) w := by
  refine run_convert_bytes_back (P := Try.prog) w 27 9 5 ⟨b, off, none⟩ c l Try.underlying27 Try.underlying5 Try.underlying9 (fun j hj => ?_)
  obtain ⟨b2, off2, e, hc⟩ := h.chr hj
  simp only [Option.some.injEq, Addr.mk.injEq, and_true] at e
  obtain ⟨rfl, rfl⟩ := e
  rw [add_none]
  exact hc
/-- Two digits each. -/
def digsV (g : Nat → Int) (n : Nat) : List UInt8 := (List.range n).flatMap fun i => [dC (g i / 10).toNat, dC (g i % 10).toNat]
theorem digsV_succ (g : Nat → Int) (n : Nat) : digsV g (n + 1) = digsV g n ++ [dC (g n / 10).toNat, dC (g n % 10).toNat] := by
  unfold digsV
  rw [List.range_succ, List.flatMap_append]
  simp
theorem digsV_len (g : Nat → Int) : ∀ n, (digsV g n).length = 2 * n
  | 0 => rfl
  | n + 1 => by rw [digsV_succ, List.length_append, digsV_len g n]; simp; omega
def ChrAt (w wr : World) (v : Value) (l : List UInt8) : Prop := Below w.heap.size w wr ∧ Own wr w.heap.size 5 1 encC v l
def RetTxt (l : List UInt8) (w : World) (e : Ending) (w' : World) : Prop := e = .returned (.tuple #[.string (strB l), .int .i64 0]) ∧ Below w.heap.size w w'
set_option maxRecDepth 100000 in
set_option maxHeartbeats 8000000 in
theorem digs_even (b o n c : Nat) (f : Nat → Int) (hn0 : 0 < n) (hn : n ≤ 20) (hg : ∀ i, i < n → 0 ≤ f i ∧ f i < 100) (w : World) (hr : NRow w b o n f) :
    Calls Try.prog 34 #[.slice (some ⟨b, o, none⟩) n c] w (RetTxt (digsV f n) w) := by
  have HR : Hid (NRow w b o n f) := hr
  obtain ⟨G, hG⟩ : ∃ G : Nat → Int, G = f := ⟨_, rfl⟩
  have HG : Hid (∀ i, i < n → 0 ≤ G i ∧ G i < 100) := by rw [hG]; exact hg
  rw [← hG] at HR
  have g0 := HG.out 0 hn0
  have c0 : w.cell? ⟨b, o, none⟩ = some (.int .i64 (f 0)) := by have h := hr 0 hn0; rw [Nat.add_zero] at h; exact h
  have f1 : (f 0 == 100) = false := by rw [beq_eq_false_iff_ne]; rw [hG] at g0; omega
  have f2 : ¬ f 0 = 100 := by rw [hG] at g0; omega
  have HE : Hid (digsV f n = digsV G n) := by rw [hG]; rfl
  clear g0
  have HX0 : Hid (ChrAt w w (.slice none 0 0) (digsV G 0)) := ⟨Below.refl _ _, Own.nil _ _ _ _ _⟩
  clear hr hG
  go_enter Try.func34, Try.ntmps34
  go_wp2_with fail
  go_loopw [5, 16] (fun u i wr => ∃ k m : Nat, k ≤ n ∧ i = .int .i64 k ∧ (∃ oa cap, u = .slice oa m cap ∧ Hid (m = 2 * k ∧ ChrAt w wr (.slice oa m cap) (digsV G k)))) (fun _ i _ => n - (intOf i).toNat)
  case atStart => exact ⟨0, 0, by omega, rfl, _, _, rfl, rfl, HX0⟩
  case round =>
    clear HX0
    obtain ⟨k, m, hk, rfl, oa, cap, rfl, HX⟩ := hrel
    obtain ⟨wb, rfl⟩ : ∃ wb : World, wb = wr := ⟨_, rfl⟩
    by_cases hlt : k < n
    · have kd : (k : Int) < (n : Int) := by omega
      have kk : IntKind.i64.wrap ((k : Int) + 1) = (k : Int) + 1 := IntWalk.i64_in _ (by omega)
      have hc := keepCell HX.out.2.1 (HR.out k hlt)
      have hv := HG.out k hlt
      obtain ⟨x, hx⟩ : ∃ x, x = G k := ⟨_, rfl⟩
      rw [← hx] at hc hv
      have x0 : ¬ (100 : Int) ≤ x := by omega
      have x0' : decide (x ≥ 100) = false := decide_eq_false (by omega)
      obtain ⟨h, hh⟩ : ∃ h, h = dC (x / 10).toNat := ⟨_, rfl⟩
      obtain ⟨l, hl⟩ : ∃ l, l = dC (x % 10).toNat := ⟨_, rfl⟩
      have eh : (h.toNat : Int) = 48 + x / 10 := by rw [hh, dC_nat (by omega)]; omega
      have el : (l.toNat : Int) = 48 + x % 10 := by rw [hl, dC_nat (by omega)]; omega
      obtain ⟨hv2, hhv2⟩ : ∃ v : Int, v = (h.toNat : Int) := ⟨_, rfl⟩
      obtain ⟨lv2, hlv2⟩ : ∃ v : Int, v = (l.toNat : Int) := ⟨_, rfl⟩
      have y1 : x.tdiv 10 = x / 10 := Int.tdiv_eq_ediv_of_nonneg hv.1
      have y2 : x.tmod 10 = x % 10 := Int.tmod_eq_emod_of_nonneg hv.1
      have z1 : IntKind.i64.wrap (x / 10) = x / 10 := IntWalk.i64_in _ (by omega)
      have z2 : IntKind.i64.wrap (48 + x / 10) = hv2 := by rw [hhv2, eh]; exact IntWalk.i64_in _ (by omega)
      have z3 : IntKind.i64.wrap (48 + x % 10) = lv2 := by rw [hlv2, el]; exact IntWalk.i64_in _ (by omega)
      have z4 : IntKind.u8.wrap hv2 = hv2 := by rw [hhv2]; exact u8_wrap (UInt8.toNat_lt h)
      have z5 : IntKind.u8.wrap lv2 = lv2 := by rw [hlv2]; exact u8_wrap (UInt8.toNat_lt l)
      have HDG : Hid (digsV G (k + 1) = digsV G k ++ [h, l]) := by show _ = _; rw [digsV_succ, ← hx, hh, hl]
      have HF : Hid (Flat (wb.alloc (.cells #[.int .u8 hv2, .int .u8 lv2] 5)) 1 encC (some ⟨wb.heap.size, 0, none⟩) [h, l]) := by
        have e := Flat.litN wb 1 encC [h, l] 5 (fun _ => rfl)
        rw [hhv2, hlv2]
        exact e
      have HIS : Hid (IsSlice (wb.alloc (.cells #[.int .u8 hv2, .int .u8 lv2] 5)) 1 encC (.slice (some ⟨wb.heap.size, 0, none⟩) 2 2) [h, l]) := ⟨_, 2, rfl, (fun e => by cases e), by simp [maxLen], HF.out⟩
      have HOW := Lib.hid (Own.alloc HX.out.2.2 (.cells #[.int .u8 hv2, .int .u8 lv2] 5))
      have HBW := Lib.hid HX.out.2.1
      have HM := Lib.hid HX.out.2.1.size
      have HME := Lib.hid HX.out.1
      have HLN := Lib.hid (digsV_len G k)
      clear HX hx hh hl eh el hv hhv2 hlv2
      go_wp2_with (at_builtin; refine wpList_appRow rfl (.tmp 22) (.tmp 31) 27 rfl elemU8 Try.underlying27 w.heap.size (.slice oa m cap) (digsV G k) encC rfl HOW.out [h, l] (.slice (some ⟨wb.heap.size, 0, none⟩) 2 2) rfl HIS.out (fun _ => rfl) ?c1 ?c2 ?c3 ?c4 ?_)
      case c1 => intro y u hu; obtain rfl : u = .int .u8 (y.toNat : Int) := (by simpa [encC] using hu); rfl
      case c2 => rw [HLN.out]; (first | omega | (simp; omega))
      case c3 => rw [HLN.out]; unfold maxLen; (first | omega | (simp; omega))
      case c4 => have := HM.out; (first | omega | (rw [World.size_alloc]; omega))
      intro v7 w7 hown7 hgr7
      obtain ⟨oa7, cap7, e7, -⟩ := Own.isSlc hown7
      obtain ⟨m7, hm7⟩ : ∃ m, m = (digsV G k ++ [h, l]).length := ⟨_, rfl⟩
      rw [← hm7] at e7
      subst e7
      have HNX : Hid (m7 = 2 * (k + 1) ∧ ChrAt w w7 (.slice oa7 m7 cap7) (digsV G (k + 1))) := by
        refine ⟨by rw [hm7, ← HDG.out, digsV_len], Below.grown (balloc HBW.out _) hgr7 (by rw [World.size_alloc]; have := HM.out; omega) (fun j e => by have := ownsRow_ge HOW.out e; exact this), ?_⟩
        rw [HDG.out]
        exact hown7
      clear hown7 hgr7 HOW HF HIS hm7 HBW HM HLN HDG
      go_wp2_with fail
      go_roundw
      case rel => exact ⟨k + 1, m7, by omega, by go_num, _, _, rfl, HNX⟩
      case measure => simp [intOf]; omega
    · obtain rfl : n = k := by omega
      have hm2 := HX.out.1
      have m0 : ¬ m ≤ 0 := by omega
      have m0' : ¬ (m : Int) ≤ 0 := by omega
      have m1 : decide ((0 : Int) ≥ (m : Int)) = false := decide_eq_false (by omega)
      obtain ⟨g7, cap7, e7, _, _, _⟩ := Own.cap HX.out.2.2 (by intro e; have h := digsV_len G n; rw [e] at h; simp at h; omega)
      obtain ⟨oa8, cap8, e8, _, hf8⟩ := Own.flat HX.out.2.2 (fun _ => rfl)
      rw [digsV_len, ← hm2] at e7 e8
      rw [e7] at e8
      cases e7
      cases e8
      have hcv := conv_flat (c := cap) hf8
      rw [digsV_len, ← hm2] at hcv
      have HF : Hid (RetTxt (digsV f n) w (.returned (.tuple #[.string (strB (digsV G n)), .int .i64 0])) wb) := ⟨by rw [HE.out], HX.out.2.1⟩
      clear HX hm2 hf8
      go_wp2
      go_ret2
      exact HF.out
set_option maxRecDepth 100000 in
set_option maxHeartbeats 8000000 in
theorem digs_odd (b o n c M : Nat) (f : Nat → Int) (hn0 : 0 < n) (hn : n ≤ 20) (hM : M = n + 1) (hcM : M ≤ c) (h0 : f 0 = 100) (hg : ∀ i, i < n → 0 ≤ f (1 + i) ∧ f (1 + i) < 100) (hz : f 1 < 10) (w : World) (hr : NRow w b o M f) :
    Calls Try.prog 34 #[.slice (some ⟨b, o, none⟩) M c] w (RetTxt (digsV (fun i => f (1 + i)) n).tail w) := by
  have HR : Hid (NRow w b (o + 1) n (fun i => f (1 + i))) := hr.cut 1 n (by omega)
  obtain ⟨G, hG⟩ : ∃ G : Nat → Int, G = (fun i => f (1 + i)) := ⟨_, rfl⟩
  have HG : Hid (∀ i, i < n → 0 ≤ G i ∧ G i < 100) := by rw [hG]; exact hg
  rw [← hG] at HR
  have c0 : w.cell? ⟨b, o, none⟩ = some (.int .i64 100) := by have h := hr 0 (by omega); rw [Nat.add_zero, h0] at h; exact h
  have HE : Hid (digsV (fun i => f (1 + i)) n = digsV G n) := by rw [hG]; rfl
  have HZ : Hid (G 0 < 10) := by rw [hG]; exact hz
  have m1 : M - 1 = n := by omega
  have m2 : 1 ≤ M := by omega
  have m3 : 0 < M := by omega
  have m4 : 1 < c := by omega
  have m5 : M ≤ c := hcM
  clear hM h0 hg hz
  have HX0 : Hid (ChrAt w w (.slice none 0 0) (digsV G 0)) := ⟨Below.refl _ _, Own.nil _ _ _ _ _⟩
  clear hr hG
  go_enter Try.func34, Try.ntmps34
  go_wp2_with fail
  go_loopw [5, 16] (fun u i wr => ∃ k m : Nat, k ≤ n ∧ i = .int .i64 k ∧ (∃ oa cap, u = .slice oa m cap ∧ Hid (m = 2 * k ∧ ChrAt w wr (.slice oa m cap) (digsV G k)))) (fun _ i _ => n - (intOf i).toNat)
  case atStart => exact ⟨0, 0, by omega, rfl, _, _, rfl, rfl, HX0⟩
  case round =>
    clear HX0
    obtain ⟨k, m, hk, rfl, oa, cap, rfl, HX⟩ := hrel
    obtain ⟨wb, rfl⟩ : ∃ wb : World, wb = wr := ⟨_, rfl⟩
    by_cases hlt : k < n
    · have kd : (k : Int) < (n : Int) := by omega
      have kk : IntKind.i64.wrap ((k : Int) + 1) = (k : Int) + 1 := IntWalk.i64_in _ (by omega)
      have hc := keepCell HX.out.2.1 (HR.out k hlt)
      have hv := HG.out k hlt
      obtain ⟨x, hx⟩ : ∃ x, x = G k := ⟨_, rfl⟩
      rw [← hx] at hc hv
      have x0 : ¬ (100 : Int) ≤ x := by omega
      have x0' : decide (x ≥ 100) = false := decide_eq_false (by omega)
      obtain ⟨h, hh⟩ : ∃ h, h = dC (x / 10).toNat := ⟨_, rfl⟩
      obtain ⟨l, hl⟩ : ∃ l, l = dC (x % 10).toNat := ⟨_, rfl⟩
      have eh : (h.toNat : Int) = 48 + x / 10 := by rw [hh, dC_nat (by omega)]; omega
      have el : (l.toNat : Int) = 48 + x % 10 := by rw [hl, dC_nat (by omega)]; omega
      obtain ⟨hv2, hhv2⟩ : ∃ v : Int, v = (h.toNat : Int) := ⟨_, rfl⟩
      obtain ⟨lv2, hlv2⟩ : ∃ v : Int, v = (l.toNat : Int) := ⟨_, rfl⟩
      have y1 : x.tdiv 10 = x / 10 := Int.tdiv_eq_ediv_of_nonneg hv.1
      have y2 : x.tmod 10 = x % 10 := Int.tmod_eq_emod_of_nonneg hv.1
      have z1 : IntKind.i64.wrap (x / 10) = x / 10 := IntWalk.i64_in _ (by omega)
      have z2 : IntKind.i64.wrap (48 + x / 10) = hv2 := by rw [hhv2, eh]; exact IntWalk.i64_in _ (by omega)
      have z3 : IntKind.i64.wrap (48 + x % 10) = lv2 := by rw [hlv2, el]; exact IntWalk.i64_in _ (by omega)
      have z4 : IntKind.u8.wrap hv2 = hv2 := by rw [hhv2]; exact u8_wrap (UInt8.toNat_lt h)
      have z5 : IntKind.u8.wrap lv2 = lv2 := by rw [hlv2]; exact u8_wrap (UInt8.toNat_lt l)
      have HDG : Hid (digsV G (k + 1) = digsV G k ++ [h, l]) := by show _ = _; rw [digsV_succ, ← hx, hh, hl]
      have HF : Hid (Flat (wb.alloc (.cells #[.int .u8 hv2, .int .u8 lv2] 5)) 1 encC (some ⟨wb.heap.size, 0, none⟩) [h, l]) := by
        have e := Flat.litN wb 1 encC [h, l] 5 (fun _ => rfl)
        rw [hhv2, hlv2]
        exact e
      have HIS : Hid (IsSlice (wb.alloc (.cells #[.int .u8 hv2, .int .u8 lv2] 5)) 1 encC (.slice (some ⟨wb.heap.size, 0, none⟩) 2 2) [h, l]) := ⟨_, 2, rfl, (fun e => by cases e), by simp [maxLen], HF.out⟩
      have HOW := Lib.hid (Own.alloc HX.out.2.2 (.cells #[.int .u8 hv2, .int .u8 lv2] 5))
      have HBW := Lib.hid HX.out.2.1
      have HM := Lib.hid HX.out.2.1.size
      have HME := Lib.hid HX.out.1
      have HLN := Lib.hid (digsV_len G k)
      clear HX hx hh hl eh el hv hhv2 hlv2
      go_wp2_with (at_builtin; refine wpList_appRow rfl (.tmp 22) (.tmp 31) 27 rfl elemU8 Try.underlying27 w.heap.size (.slice oa m cap) (digsV G k) encC rfl HOW.out [h, l] (.slice (some ⟨wb.heap.size, 0, none⟩) 2 2) rfl HIS.out (fun _ => rfl) ?c1 ?c2 ?c3 ?c4 ?_)
      case c1 => intro y u hu; obtain rfl : u = .int .u8 (y.toNat : Int) := (by simpa [encC] using hu); rfl
      case c2 => rw [HLN.out]; (first | omega | (simp; omega))
      case c3 => rw [HLN.out]; unfold maxLen; (first | omega | (simp; omega))
      case c4 => have := HM.out; (first | omega | (rw [World.size_alloc]; omega))
      intro v7 w7 hown7 hgr7
      obtain ⟨oa7, cap7, e7, -⟩ := Own.isSlc hown7
      obtain ⟨m7, hm7⟩ : ∃ m, m = (digsV G k ++ [h, l]).length := ⟨_, rfl⟩
      rw [← hm7] at e7
      subst e7
      have HNX : Hid (m7 = 2 * (k + 1) ∧ ChrAt w w7 (.slice oa7 m7 cap7) (digsV G (k + 1))) := by
        refine ⟨by rw [hm7, ← HDG.out, digsV_len], Below.grown (balloc HBW.out _) hgr7 (by rw [World.size_alloc]; have := HM.out; omega) (fun j e => by have := ownsRow_ge HOW.out e; exact this), ?_⟩
        rw [HDG.out]
        exact hown7
      clear hown7 hgr7 HOW HF HIS hm7 HBW HM HLN HDG
      go_wp2_with fail
      go_roundw
      case rel => exact ⟨k + 1, m7, by omega, by go_num, _, _, rfl, HNX⟩
      case measure => simp [intOf]; omega
    · obtain rfl : n = k := by omega
      have hm2 := HX.out.1
      have m0 : ¬ m ≤ 1 := by omega
      have m0' : ¬ (m : Int) ≤ 1 := by omega
      have mp : 0 < m := by omega
      have m1' : 1 ≤ m := by omega
      have m1 : decide ((1 : Int) ≥ (m : Int)) = false := decide_eq_false (by omega)
      obtain ⟨g7, cap7, e7, hcp, _, _⟩ := Own.cap HX.out.2.2 (by intro e; have h := digsV_len G n; rw [e] at h; simp at h; omega)
      obtain ⟨oa8, cap8, e8, _, hf8⟩ := Own.flat HX.out.2.2 (fun _ => rfl)
      rw [digsV_len, ← hm2] at e7 e8 hcp
      rw [e7] at e8
      cases e7
      cases e8
      obtain ⟨b9, o9, e9, hc9⟩ := hf8.chr (i := 0) (by rw [digsV_len]; omega)
      cases e9
      have hd0 : ((digsV G n)[0]'(by rw [digsV_len]; omega)).toNat = 48 := by
        have e : n = n - 1 + 1 := by omega
        have e2 : (digsV G n)[0]'(by rw [digsV_len]; omega) = dC (G 0 / 10).toNat := by
          unfold digsV
          rw [List.getElem_of_eq (show (List.range n).flatMap _ = _ by rw [e, List.range_succ_eq_map, List.flatMap_cons])]
          rfl
        rw [e2, show G 0 / 10 = 0 by have h1 := HZ.out; have h2 := (HG.out 0 hn0).1; omega]
        rfl
      rw [hd0] at hc9
      have hc10 : wb.cell? ⟨g7, 0, none⟩ = some (.int .u8 48) := hc9
      have hcut := hf8.cut 1 (m - 1)
      obtain ⟨L9, hL9⟩ : ∃ L, L = ((digsV G n).drop 1).take (m - 1) := ⟨_, rfl⟩
      have hL9e : L9 = (digsV G n).drop 1 := by rw [hL9]; exact List.take_of_length_le (by rw [List.length_drop, digsV_len]; omega)
      rw [← hL9] at hcut
      have hcv := conv_flat (c := cap - 1) hcut
      have hl9 : L9.length = m - 1 := by rw [hL9e, List.length_drop, digsV_len]; omega
      rw [hl9] at hcv
      have hcv2 : (convert 27 9 (.slice (some ⟨g7, 1, none⟩) (m - 1) (cap - 1))).run Try.prog wb = .ok (.string (strB L9)) wb := hcv
      have HF : Hid (RetTxt (digsV (fun i => f (1 + i)) n).tail w (.returned (.tuple #[.string (strB L9), .int .i64 0])) wb) := ⟨by rw [HE.out, hL9e, List.drop_one], HX.out.2.1⟩
      clear HX hm2 hf8 hL9 hL9e hl9 hcv hcut hd0 hc9
      go_wp2
      go_ret2
      exact HF.out
end Go.Proofs.Ytcadgjhfdolejaa
