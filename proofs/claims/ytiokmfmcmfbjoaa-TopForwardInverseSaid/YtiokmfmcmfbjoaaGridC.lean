/-
  The walks of grid.nodes and grid.Check. Own text.
-/
import Derived.Test.YtiokmfmcmfbjoaaCurveW
namespace Go.Proofs.Ytiokmfmcmfbjoaa
open Go.RowKit
set_option linter.unusedVariables false
def pw (s : Int) : Nat → Int
  | 0 => 1
  | k + 1 => pw s k * s
theorem pw_bd {s : Int} (h1 : 1 ≤ s) (h2 : s ≤ 9) : ∀ k, k ≤ 4 → 1 ≤ pw s k ∧ pw s k ≤ 6561 := by
  have a0 : pw s 0 = 1 := rfl
  have a1 : pw s 1 = s := by show 1 * s = s; rw [Int.one_mul]
  have a2 : pw s 2 = s * s := by show pw s 1 * s = _; rw [a1]
  have b2 : 1 ≤ s * s ∧ s * s ≤ 81 := by
    have u := Int.mul_le_mul h2 h2 (by omega) (by omega : (0 : Int) ≤ 9)
    have l := Int.mul_le_mul h1 h1 (by omega) (by omega : (0 : Int) ≤ s)
    omega
  have a3 : pw s 3 = s * s * s := by show pw s 2 * s = _; rw [a2]
  have b3 : 1 ≤ s * s * s ∧ s * s * s ≤ 729 := by
    have u := Int.mul_le_mul b2.2 h2 (by omega) (by omega : (0 : Int) ≤ 81)
    have l := Int.mul_le_mul b2.1 h1 (by omega) (by omega : (0 : Int) ≤ s * s)
    omega
  have a4 : pw s 4 = s * s * s * s := by show pw s 3 * s = _; rw [a3]
  have b4 : 1 ≤ s * s * s * s ∧ s * s * s * s ≤ 6561 := by
    have u := Int.mul_le_mul b3.2 h2 (by omega) (by omega : (0 : Int) ≤ 729)
    have l := Int.mul_le_mul b3.1 h1 (by omega) (by omega : (0 : Int) ≤ s * s * s)
    omega
  intro k hk
  match k, hk with
  | 0, _ => rw [a0]; omega
  | 1, _ => rw [a1]; omega
  | 2, _ => rw [a2]; omega
  | 3, _ => rw [a3]; omega
  | 4, _ => rw [a4]; omega
def SizeOk (s : Int) : Prop := s = 2 ∨ s = 3 ∨ s = 4 ∨ s = 5 ∨ s = 6 ∨ s = 7 ∨ s = 9
def OkShape (inn out size : Int) : Prop := (1 ≤ inn ∧ inn ≤ 4 ∧ 1 ≤ out ∧ out ≤ 8) ∧ SizeOk size ∧ pw size inn.toNat * out ≤ 32768
/-- The number of nodes, or an error. -/
def RetNodes (inn out size : Int) (w : World) (e : Ending) (w' : World) : Prop := ∃ m c : Int, e = .returned (.tuple #[.int .i64 m, .int .i64 c]) ∧ (c = 0 ↔ OkShape inn out size) ∧ (c = 0 → m = pw size inn.toNat) ∧ w = w'
theorem RetNodes.no {inn out size m c : Int} {w : World} (hc : c ≠ 0) (hn : ¬ OkShape inn out size) : RetNodes inn out size w (.returned (.tuple #[.int .i64 m, .int .i64 c])) w := ⟨m, c, rfl, ⟨fun h => absurd h hc, fun h => absurd h hn⟩, fun h => absurd h hc, rfl⟩
set_option maxHeartbeats 4000000 in
theorem nodes_any (inn out size : Int) (w : World) : Calls Try.prog 20 #[.int .i64 inn, .int .i64 out, .int .i64 size] w (RetNodes inn out size w) := by
  by_cases h1 : 1 ≤ inn ∧ inn ≤ 4 ∧ 1 ≤ out ∧ out ≤ 8
  · have H1 := Lib.hid h1
    obtain ⟨i1, i2, o1, o2⟩ := h1
    by_cases h2 : SizeOk size
    · have H2 := Lib.hid h2
      have hs : 1 ≤ size ∧ size ≤ 9 := by unfold SizeOk at h2; omega
      obtain ⟨d, hd⟩ : ∃ d : Nat, inn = (d : Int) := ⟨inn.toNat, by omega⟩
      subst hd
      obtain ⟨S, hS⟩ : ∃ S, S = size := ⟨_, rfl⟩
      have hbd := pw_bd (s := S) (by omega) (by omega)
      have hpo := mul_bd (pw S d) out 6561 8 (by have := hbd d (by omega); omega) (hbd d (by omega)).2 (by omega) o2
      have gpo : IntKind.i64.wrap (pw S d * out) = pw S d * out := IntWalk.i64_in _ (by omega)
      have HBD := Lib.hid hbd
      have hdd : d ≤ 4 := by omega
      have HE : Hid (∀ k, pw S k * size = pw S (k + 1)) := fun k => by rw [← hS]; rfl
      have hyes : Hid (pw S d * out ≤ 32768 → OkShape (d : Int) out size) := fun h => ⟨H1.out, H2.out, by rw [Int.toNat_natCast, ← hS]; exact h⟩
      have hno : Hid (32768 < pw S d * out → ¬ OkShape (d : Int) out size) := fun h h' => by
        have := h'.2.2
        rw [Int.toNat_natCast, ← hS] at this
        omega
      have hpw : Hid (pw S d = pw size (d : Int).toNat) := by show _ = _; rw [Int.toNat_natCast, hS]
      clear hbd hS
      unfold SizeOk at h2
      rcases h2 with h2 | h2 | h2 | h2 | h2 | h2 | h2
      all_goals
        subst h2
        go_enter Try.func20, Try.ntmps20
        go_wp2
        go_loop [8, 33] (fun n i => ∃ k : Nat, k ≤ d ∧ i = .int .i64 k ∧ n = .int .i64 (pw S k)) (fun _ i => d - (intOf i).toNat)
        case atStart => exact ⟨0, by omega, rfl, rfl⟩
        case round =>
          obtain ⟨k, hk, rfl, rfl⟩ := hrel
          have hb := HBD.out k (by omega)
          by_cases hlt : k < d
          · have hb2 := HBD.out (k + 1) (by omega)
            have E := Lib.hid (HE.out k)
            generalize pw S k = x at *
            rw [← E.out] at hb2
            go_wp2
            go_round
            case rel => exact ⟨k + 1, by omega, by go_num, by rw [E.out]⟩
            case measure => simp [intOf]; omega
          · obtain rfl : k = d := by omega
            obtain ⟨x, hx⟩ : ∃ x, x = pw S k := ⟨_, rfl⟩
            rw [← hx] at hb gpo hpo hyes hno hpw ⊢
            clear hx
            by_cases hbig : 32768 < x * out
            · have hn := Lib.hid (hno.out hbig)
              go_wp2
              go_ret2
              exact RetNodes.no (by omega) hn.out
            · have hy := Lib.hid (hyes.out (by omega))
              go_wp2
              go_ret2
              exact ⟨_, _, rfl, ⟨fun _ => hy.out, fun _ => rfl⟩, fun _ => hpw.out, rfl⟩
    · have hn : Hid (¬ OkShape inn out size) := fun h => h2 h.2.1
      unfold SizeOk at h2
      have t2 : (size == 2) = false := by simp; omega
      have t3 : (size == 3) = false := by simp; omega
      have t4 : (size == 4) = false := by simp; omega
      have t5 : (size == 5) = false := by simp; omega
      have t6 : (size == 6) = false := by simp; omega
      have t7 : (size == 7) = false := by simp; omega
      have t9 : (size == 9) = false := by simp; omega
      clear h2
      go_enter Try.func20, Try.ntmps20
      go_wp2
      go_ret2
      exact RetNodes.no (by omega) hn.out
  · have hn : Hid (¬ OkShape inn out size) := fun h => h1 h.1
    go_enter Try.func20, Try.ntmps20
    go_wp2
    all_goals
      first
        | (go_ret2; exact RetNodes.no (by omega) hn.out)
        | (exfalso; omega)
structure OkGrid (inn out size : Int) (vs : List Int) : Prop where
  shape : OkShape inn out size
  len : (vs.length : Int) = pw size inn.toNat * out
  rng : ∀ i (h : i < vs.length), -32768 ≤ vs[i] ∧ vs[i] ≤ 65535
set_option maxHeartbeats 2000000 in
theorem gridcheck_any (inn out size : Int) (ov : Option Addr) (vs : List Int) (cv : Nat) (w : World) (hm : vs.length ≤ maxLen) (hx : Flat w 1 encInt ov vs) :
    Calls Try.prog 13 #[.agg #[.int .i64 inn, .int .i64 out, .int .i64 size, .slice ov vs.length cv]] w (RetChk (OkGrid inn out size vs) w) := by
  have hm9 : vs.length ≤ 9223372036854775807 := by unfold maxLen at hm; omega
  have hb0 := balloc (Below.refl _ w) (.cells #[.int .i64 inn, .int .i64 out, .int .i64 size, .slice ov vs.length cv] 26)
  have hx1 := hx.below hb0
  have HX := Lib.hid hx1
  have HB := Lib.hid hb0
  clear hx hx1 hb0
  by_cases hs : OkShape inn out size
  · have HS := Lib.hid hs
    obtain ⟨⟨i1, i2, o1, o2⟩, hsz, hle⟩ := hs
    have hsz2 : 1 ≤ size ∧ size ≤ 9 := by unfold SizeOk at hsz; omega
    have hpb := pw_bd hsz2.1 hsz2.2 inn.toNat (by omega)
    obtain ⟨S, hS⟩ : ∃ S, S = pw size inn.toNat := ⟨_, rfl⟩
    rw [← hS] at hpb hle
    have hpo := mul_bd S out 6561 8 (by omega) (by omega) (by omega) o2
    have gpo : IntKind.i64.wrap (S * out) = S * out := IntWalk.i64_in _ (by omega)
    have HSS := Lib.hid hS
    have HN : Hid (∀ W, Calls Try.prog 20 #[.int .i64 inn, .int .i64 out, .int .i64 size] W fun e w' => e = .returned (.tuple #[.int .i64 S, .int .i64 0]) ∧ W = w') := fun W => by
      refine (nodes_any inn out size W).mono ?_
      rintro e w' ⟨m, c, rfl, hc, hmm, rfl⟩
      have h0 := hc.2 HS.out
      rw [h0, hmm h0, HSS.out]
      exact ⟨rfl, rfl⟩
    clear hsz hS hle
    by_cases hl : (vs.length : Int) = S * out
    · have HL := Lib.hid hl
      have t1 : ((vs.length : Int) != S * out) = false := by simp [hl]
      clear hl
      go_enter Try.func13, Try.ntmps13
      go_wp2_with (go_at_call 20; refine (HN.out _).mono ?_; rintro e w' ⟨rfl, rfl⟩)
      generalize w.alloc (.cells #[.int .i64 inn, .int .i64 out, .int .i64 size, .slice ov vs.length cv] 26) = W1 at *
      go_loop [31] (fun i => ∃ k : Nat, k ≤ vs.length ∧ i = .int .i64 k ∧ Hid (∀ j (h : j < vs.length), j < k → -32768 ≤ vs[j] ∧ vs[j] ≤ 65535)) (fun i => vs.length - (intOf i).toNat)
      case atStart => exact ⟨0, by omega, rfl, Lib.hid (fun j h hj => by omega)⟩
      case round =>
        obtain ⟨k, hk, rfl, HA⟩ := hrel
        by_cases hlt : k < vs.length
        · obtain ⟨b, off, rfl, e1⟩ := HX.out.int hlt
          by_cases hok : -32768 ≤ vs[k] ∧ vs[k] ≤ 65535
          · have HN2 : Hid (∀ j (h : j < vs.length), j < k + 1 → -32768 ≤ vs[j] ∧ vs[j] ≤ 65535) := fun j h hj => by
              by_cases e : j = k
              · subst e; exact hok
              · exact HA.out j h (by omega)
            go_wp2
            go_round
            case rel => exact ⟨k + 1, by omega, by go_num, HN2⟩
            case measure => simp [intOf]; omega
          · have hno : Hid (¬ OkGrid inn out size vs) := fun h => hok (h.rng k hlt)
            go_wp2
            all_goals
              first
                | (go_ret; exact RetChk.no (by omega) hno.out HB.out)
                | (exfalso; omega)
        · have hyes : Hid (OkGrid inn out size vs) := ⟨HS.out, by rw [← HSS.out]; exact HL.out, fun j h => HA.out j h (by omega)⟩
          go_wp2
          go_ret
          exact RetChk.yes hyes.out HB.out
    · have hno : Hid (¬ OkGrid inn out size vs) := fun h => hl (by rw [HSS.out]; exact h.len)
      have t1 : ((vs.length : Int) != S * out) = true := by simpa using hl
      clear hl
      go_enter Try.func13, Try.ntmps13
      go_wp2_with (go_at_call 20; refine (HN.out _).mono ?_; rintro e w' ⟨rfl, rfl⟩)
      go_ret
      exact RetChk.no (by omega) hno.out HB.out
  · have hno : Hid (¬ OkGrid inn out size vs) := fun h => hs h.shape
    have HN : Hid (∀ W, Calls Try.prog 20 #[.int .i64 inn, .int .i64 out, .int .i64 size] W fun e w' => ∃ m c : Int, (c != 0) = true ∧ e = .returned (.tuple #[.int .i64 m, .int .i64 c]) ∧ W = w') := fun W => by
      refine (nodes_any inn out size W).mono ?_
      rintro e w' ⟨m, c, rfl, hc, hmm, rfl⟩
      exact ⟨m, c, by simpa using fun h => hs (hc.1 h), rfl, rfl⟩
    clear hs
    go_enter Try.func13, Try.ntmps13
    go_wp2_with (go_at_call 20; refine (HN.out _).mono ?_; rintro e w' ⟨m, c, hc, rfl, rfl⟩)
    go_ret
    exact RetChk.no (by simpa using hc) hno.out HB.out
end Go.Proofs.Ytiokmfmcmfbjoaa
