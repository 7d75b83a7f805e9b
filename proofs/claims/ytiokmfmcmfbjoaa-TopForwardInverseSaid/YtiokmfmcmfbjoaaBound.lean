/-
  The walk of the bound of a search. Own text.
-/
import Derived.Test.YtiokmfmcmfbjoaaSrch
namespace Go.Proofs.Ytiokmfmcmfbjoaa
open Go.RowKit
set_option linter.unusedVariables false
/-- What bound returns. -/
def RetBound (w0 : World) (b ba bs bl bh bf bt d : Nat) (st : Int) (dist : (Nat → Int) → Int) (F T : Nat → Int) (bv : Value) (far : Int) (m : Nat → Int) (e : Ending) (w' : World) : Prop :=
  ∃ (n : Int) (lo hi : Nat → Int), e = .returned (.int .i64 n) ∧ (InB d F T m → n = 0) ∧ SrcA w0 b ba bs bl bh bf bt d st dist F T lo hi bv far w'
def upTo (k : Nat) (f g : Nat → Int) (i : Nat) : Int := if i < k then f i else g i
theorem upTo_next {k : Nat} {f g : Nat → Int} {x : Int} (hx : x = f k) (i : Nat) : (if i = k then x else upTo k f g i) = upTo (k + 1) f g i := by
  unfold upTo
  by_cases e : i = k
  · subst e; rw [if_pos rfl, if_pos (by omega), hx]
  · rw [if_neg e]
    by_cases e2 : i < k
    · rw [if_pos e2, if_pos (by omega)]
    · rw [if_neg e2, if_neg (by omega)]
theorem run_ix3 (a b c : Int) (W : World) : (Instr.index 76 (.agg #[.int .i64 a, .int .i64 b, .int .i64 c]) (.int .i64 0)).run Try.prog W = .ok (.int .i64 a) W ∧ (Instr.index 76 (.agg #[.int .i64 a, .int .i64 b, .int .i64 c]) (.int .i64 1)).run Try.prog W = .ok (.int .i64 b) W ∧ (Instr.index 76 (.agg #[.int .i64 a, .int .i64 b, .int .i64 c]) (.int .i64 2)).run Try.prog W = .ok (.int .i64 c) W := by
  have hu : Try.prog.underlying 76 = some (.array 3 3) := by kernel_rfl
  have hc : Try.prog.cellsOf 3 = 1 := by kernel_rfl
  refine ⟨?_, ?_, ?_⟩ <;> simp [Instr.index, run_underlying hu, asIntOf, go_sem]
def gapSum (lo hi tv : Nat → Int) : Nat → Int
  | 0 => 0
  | j + 1 => gapSum lo hi tv j + gapV (lo j) (hi j) (tv j) * gapV (lo j) (hi j) (tv j)
theorem gapSum_zero {lo hi tv : Nat → Int} (h : ∀ o, o < 3 → lo o ≤ tv o ∧ tv o ≤ hi o) : gapSum lo hi tv 3 = 0 := by
  show ((0 + gapV (lo 0) (hi 0) (tv 0) * gapV (lo 0) (hi 0) (tv 0)) + gapV (lo 1) (hi 1) (tv 1) * gapV (lo 1) (hi 1) (tv 1)) + gapV (lo 2) (hi 2) (tv 2) * gapV (lo 2) (hi 2) (tv 2) = 0
  rw [gap_zero (h 0 (by omega)).1 (h 0 (by omega)).2, gap_zero (h 1 (by omega)).1 (h 1 (by omega)).2, gap_zero (h 2 (by omega)).1 (h 2 (by omega)).2]
  rfl
theorem gapSum_bd {lo hi tv : Nat → Int} (h1 : ∀ o, o < 3 → (-65535 ≤ lo o ∧ lo o ≤ 65535) ∧ -65535 ≤ hi o ∧ hi o ≤ 65535) (h2 : ∀ o, o < 3 → -65535 ≤ tv o ∧ tv o ≤ 65535) : ∀ j, j ≤ 3 → 0 ≤ gapSum lo hi tv j ∧ gapSum lo hi tv j ≤ (j : Int) * 17179344900
  | 0, _ => ⟨Int.le_refl _, Int.le_refl _⟩
  | j + 1, hj => by
    obtain ⟨a1, a2⟩ := gapSum_bd h1 h2 j (by omega)
    have hg := gap_bd (h1 j (by omega)).1 (h1 j (by omega)).2 (h2 j (by omega))
    have hm := mul_bd _ _ _ _ hg.1 hg.2 hg.1 hg.2
    show 0 ≤ gapSum lo hi tv j + _ ∧ gapSum lo hi tv j + _ ≤ _
    constructor <;> omega
set_option maxRecDepth 100000 in
set_option maxHeartbeats 4000000 in
theorem bound_any (w0 : World) (b ba bs bl bh bf bt d : Nat) (st : Int) (dist : (Nat → Int) → Int) (F T lo hi : Nat → Int) (bv : Value) (far : Int) (w : World) (P : Prof) (oi : Option Addr) (ci : Nat) (oc : Option Addr) (cc : Nat) (ov : Option Addr) (cv : Nat) (tv m : Nat → Int)
    (G : Geo w0.heap.size bs bl bh bf bt) (hS : SrcA w0 b ba bs bl bh bf bt d st dist F T lo hi bv far w) (hh : HeldAt w0 b P oi ci oc cc ov cv) (hok : OkProf P) (tt : Int) (hA : AskAt w0 ba tv st tt) (hd : d = P.inks.length) (hst : 1 ≤ st ∧ st ≤ 255)
    (hbox : ∀ i, i < d → 0 ≤ F i ∧ F i ≤ T i ∧ T i * st ≤ 255) (htv : ∀ o, o < 3 → tv o = labV P (candL d st m) o) (htb : ∀ o, o < 3 → -65535 ≤ tv o ∧ tv o ≤ 65535) :
    Calls Try.prog 27 #[.pointer (some ⟨bs, 0, none⟩)] w (RetBound w0 b ba bs bl bh bf bt d st dist F T bv far m) := by
  have c6 : w.cell? ⟨bs, 6, none⟩ = some (.slice (some ⟨bf, 0, none⟩) d d) := hS.s.at' 6 (by omega)
  have hf := hok.few
  have d1 : 1 ≤ d := by omega
  have d4 : d ≤ 4 := by omega
  have HS0 : Hid (SrcA w0 b ba bs bl bh bf bt d st dist F T (upTo 0 (fun i => fineV P i (F i * st)) lo) (upTo 0 (fun i => fineV P i (T i * st)) hi) bv far w) := hS.congr (fun _ _ => rfl) (fun _ _ => rfl) (fun i _ => (if_neg (by omega)).symm) (fun i _ => (if_neg (by omega)).symm)
  have HG := Lib.hid G
  have HH := Lib.hid hh
  have HOK := Lib.hid hok
  have HA := Lib.hid hA
  have HB := Lib.hid hbox
  have HTV := Lib.hid (And.intro htv htb)
  have HD := Lib.hid hd
  obtain ⟨st1, st2⟩ := hst
  clear hS G hh hok hA hbox htv htb hd hf
  go_enter Try.func27, Try.ntmps27
  go_wp2
  go_loopw [15] (fun i wr => ∃ k : Nat, k ≤ d ∧ i = .int .i64 k ∧ Hid (SrcA w0 b ba bs bl bh bf bt d st dist F T (upTo k (fun i => fineV P i (F i * st)) lo) (upTo k (fun i => fineV P i (T i * st)) hi) bv far wr)) (fun i _ => d - (intOf i).toNat)
  case atStart => exact ⟨0, by omega, rfl, HS0⟩
  case round =>
    clear HS0 c6
    obtain ⟨k, hk, rfl, HS⟩ := hrel
    by_cases hlt : k < d
    · obtain ⟨b0, b1, b2⟩ := HB.out k hlt
      have hkc : k < P.curves.length := by rw [HOK.out.same, ← HD.out]; exact hlt
      have hFk0 : 0 ≤ F k * st := Int.mul_nonneg b0 (by omega)
      have hFk1 : F k * st ≤ T k * st := Int.mul_le_mul_of_nonneg_right b1 (by omega)
      obtain ⟨Fk, hFk⟩ : ∃ Fk, Fk = F k := ⟨_, rfl⟩
      obtain ⟨Tk, hTk⟩ : ∃ Tk, Tk = T k := ⟨_, rfl⟩
      obtain ⟨A, hAA⟩ : ∃ A, A = Fk * st := ⟨_, rfl⟩
      obtain ⟨C, hCC⟩ : ∃ C, C = Tk * st := ⟨_, rfl⟩
      have one : ∀ (t : Int) (W : World), 0 ≤ t → t ≤ 255 → Below w0.heap.size w0 W → Calls Try.prog 26 #[.pointer (some ⟨b, 0, none⟩), .int .i64 (k : Int), .int .i64 t] W (fun e w' => e = .returned (.int .i64 (fineV P k t)) ∧ Below W.heap.size W w') := fun t W h0 h1 hb =>
        (fineOne_any b P oi ci oc cc ov cv k t W (HH.out.below hb) HOK.out hkc h0 h1).mono fun e w' h => ⟨h.1, h.2.2⟩
      have HONE := Lib.hid one
      rw [← hFk, ← hTk, ← hAA, ← hCC] at hFk1
      rw [← hFk, ← hAA] at hFk0
      rw [← hTk, ← hCC] at b2
      have w1 : IntKind.i64.wrap (Fk * st) = A := by rw [← hAA]; exact IntWalk.i64_in _ (by omega)
      have w2 : IntKind.i64.wrap (Tk * st) = C := by rw [← hCC]; exact IntWalk.i64_in _ (by omega)
      have k0 : (0 : Int) ≤ (k : Int) := by omega
      have kd : (k : Int) < (d : Int) := by omega
      have e6 : wr.cell? ⟨bf, k, none⟩ = some (.int .i64 Fk) := by rw [hFk]; exact HS.out.fr.at' k hlt
      have e0 : wr.cell? ⟨bs, 0, none⟩ = some (.pointer (some ⟨b, 0, none⟩)) := HS.out.s.at' 0 (by omega)
      have e1 : wr.cell? ⟨bs, 1, none⟩ = some (.pointer (some ⟨ba, 0, none⟩)) := HS.out.s.at' 1 (by omega)
      have e4 : wr.cell? ⟨bs, 4, none⟩ = some (.slice (some ⟨bl, 0, none⟩) d d) := HS.out.s.at' 4 (by omega)
      have e7 : wr.cell? ⟨bs, 6, none⟩ = some (.slice (some ⟨bf, 0, none⟩) d d) := HS.out.s.at' 6 (by omega)
      have e8 : wr.cell? ⟨ba, 3, none⟩ = some (.int .i64 st) := (HA.out.below HS.out.bel).step
      have HNX : Hid (∀ W, Below wr.heap.size wr W → SrcA w0 b ba bs bl bh bf bt d st dist F T (upTo (k + 1) (fun i => fineV P i (F i * st)) lo) (upTo k (fun i => fineV P i (T i * st)) hi) bv far (W.setCell ⟨bl, k, none⟩ (.int .i64 (fineV P k A)))) := fun W hb => by
        refine ((HS.out.below hb).setLo HG.out hlt _).congr (fun _ _ => rfl) (fun _ _ => rfl) (fun i _ => upTo_next (by rw [hAA, hFk]) i) (fun _ _ => rfl)
      have HCEL : Hid (∀ W, Below wr.heap.size wr W → (∃ y, W.cell? ⟨bl, k, none⟩ = some (.int .i64 y)) ∧ W.frozen? ⟨bl, k, none⟩ = false) := fun W hb => ⟨⟨_, (HS.out.below hb).lo.at' k hlt⟩, (HS.out.below hb).lo.fz k⟩
      have HBL : Hid (Below w0.heap.size w0 wr) := HS.out.bel
      have hS : Hid (∀ w', Below wr.heap.size wr w' → (w'.cell? ⟨bs, 0, none⟩ = some (.pointer (some ⟨b, 0, none⟩)) ∧ w'.cell? ⟨bs, 1, none⟩ = some (.pointer (some ⟨ba, 0, none⟩)) ∧ w'.cell? ⟨bs, 4, none⟩ = some (.slice (some ⟨bl, 0, none⟩) d d) ∧ w'.cell? ⟨bs, 6, none⟩ = some (.slice (some ⟨bf, 0, none⟩) d d) ∧ w'.cell? ⟨bf, k, none⟩ = some (.int .i64 Fk) ∧ w'.cell? ⟨ba, 3, none⟩ = some (.int .i64 st))) := fun w' hb => ⟨keepCell hb e0, keepCell hb e1, keepCell hb e4, keepCell hb e7, keepCell hb e6, keepCell hb e8⟩
      have HST : Hid (∀ w', Below wr.heap.size wr w' → ((w'.setCell ⟨bl, k, none⟩ (.int .i64 (fineV P k A))).cell? ⟨bs, 0, none⟩ = some (.pointer (some ⟨b, 0, none⟩)) ∧ (w'.setCell ⟨bl, k, none⟩ (.int .i64 (fineV P k A))).cell? ⟨bs, 1, none⟩ = some (.pointer (some ⟨ba, 0, none⟩)) ∧ (w'.setCell ⟨bl, k, none⟩ (.int .i64 (fineV P k A))).cell? ⟨bs, 4, none⟩ = some (.slice (some ⟨bl, 0, none⟩) d d) ∧ (w'.setCell ⟨bl, k, none⟩ (.int .i64 (fineV P k A))).cell? ⟨bs, 6, none⟩ = some (.slice (some ⟨bf, 0, none⟩) d d) ∧ (w'.setCell ⟨bl, k, none⟩ (.int .i64 (fineV P k A))).cell? ⟨bf, k, none⟩ = some (.int .i64 Fk) ∧ (w'.setCell ⟨bl, k, none⟩ (.int .i64 (fineV P k A))).cell? ⟨ba, 3, none⟩ = some (.int .i64 st))) := fun w' hb => by
        have h := HNX.out w' hb
        exact ⟨h.s.at' 0 (by omega), h.s.at' 1 (by omega), h.s.at' 4 (by omega), h.s.at' 6 (by omega), by rw [hFk]; exact h.fr.at' k hlt, (HA.out.below h.bel).step⟩
      clear hAA hFk
      go_wp2
      go_region_held3 (fun w' => w'.cell? ⟨bs, 0, none⟩ = some (.pointer (some ⟨b, 0, none⟩)) ∧ w'.cell? ⟨bs, 1, none⟩ = some (.pointer (some ⟨ba, 0, none⟩)) ∧ w'.cell? ⟨bs, 4, none⟩ = some (.slice (some ⟨bl, 0, none⟩) d d) ∧ w'.cell? ⟨bs, 6, none⟩ = some (.slice (some ⟨bf, 0, none⟩) d d) ∧ w'.cell? ⟨bf, k, none⟩ = some (.int .i64 Fk) ∧ w'.cell? ⟨ba, 3, none⟩ = some (.int .i64 st))
        ((first | assumption | (refine HST.out _ ?_; assumption) | (refine hS.out _ ?_; (first | assumption | go_grown))))
        (first | fail | (go_simp; go_at_call 26; (with_reducible refine (HONE.out _ _ hFk0 (by omega) (by first | exact HBL.out | exact bthen HBL.out (by go_grown))).mono ?_); rintro e w3 ⟨rfl, hb3⟩; have hz3 : Below wr.heap.size wr w3 := (by first | exact hb3 | exact bthen (by go_grown) hb3); obtain ⟨⟨y, hy⟩, hyz⟩ := HCEL.out w3 hz3))
      have HS2 := Lib.hid (HNX.out w3 hz3)
      clear hS HST HNX HCEL hz3 hb3 hy hyz e0 e1 e4 e6 e7 e8 HBL HS
      generalize w3.setCell ⟨bl, k, none⟩ (.int .i64 (fineV P k A)) = W5 at *
      have e6 : W5.cell? ⟨bt, k, none⟩ = some (.int .i64 Tk) := by rw [hTk]; exact HS2.out.up.at' k hlt
      have e0 : W5.cell? ⟨bs, 0, none⟩ = some (.pointer (some ⟨b, 0, none⟩)) := HS2.out.s.at' 0 (by omega)
      have e1 : W5.cell? ⟨bs, 1, none⟩ = some (.pointer (some ⟨ba, 0, none⟩)) := HS2.out.s.at' 1 (by omega)
      have e4 : W5.cell? ⟨bs, 5, none⟩ = some (.slice (some ⟨bh, 0, none⟩) d d) := HS2.out.s.at' 5 (by omega)
      have e7 : W5.cell? ⟨bs, 7, none⟩ = some (.slice (some ⟨bt, 0, none⟩) d d) := HS2.out.s.at' 7 (by omega)
      have e8 : W5.cell? ⟨ba, 3, none⟩ = some (.int .i64 st) := (HA.out.below HS2.out.bel).step
      have HNX : Hid (∀ W, Below W5.heap.size W5 W → SrcA w0 b ba bs bl bh bf bt d st dist F T (upTo (k + 1) (fun i => fineV P i (F i * st)) lo) (upTo (k + 1) (fun i => fineV P i (T i * st)) hi) bv far (W.setCell ⟨bh, k, none⟩ (.int .i64 (fineV P k C)))) := fun W hb => by
        refine ((HS2.out.below hb).setHi HG.out hlt _).congr (fun _ _ => rfl) (fun _ _ => rfl) (fun _ _ => rfl) (fun i _ => upTo_next (by rw [hCC, hTk]) i)
      have HCEL : Hid (∀ W, Below W5.heap.size W5 W → (∃ y, W.cell? ⟨bh, k, none⟩ = some (.int .i64 y)) ∧ W.frozen? ⟨bh, k, none⟩ = false) := fun W hb => ⟨⟨_, (HS2.out.below hb).hi.at' k hlt⟩, (HS2.out.below hb).hi.fz k⟩
      have HBL : Hid (Below w0.heap.size w0 W5) := HS2.out.bel
      have hS : Hid (∀ w', Below W5.heap.size W5 w' → (w'.cell? ⟨bs, 0, none⟩ = some (.pointer (some ⟨b, 0, none⟩)) ∧ w'.cell? ⟨bs, 1, none⟩ = some (.pointer (some ⟨ba, 0, none⟩)) ∧ w'.cell? ⟨bs, 5, none⟩ = some (.slice (some ⟨bh, 0, none⟩) d d) ∧ w'.cell? ⟨bs, 7, none⟩ = some (.slice (some ⟨bt, 0, none⟩) d d) ∧ w'.cell? ⟨bt, k, none⟩ = some (.int .i64 Tk) ∧ w'.cell? ⟨ba, 3, none⟩ = some (.int .i64 st))) := fun w' hb => ⟨keepCell hb e0, keepCell hb e1, keepCell hb e4, keepCell hb e7, keepCell hb e6, keepCell hb e8⟩
      have HST : Hid (∀ w', Below W5.heap.size W5 w' → ((w'.setCell ⟨bh, k, none⟩ (.int .i64 (fineV P k C))).cell? ⟨bs, 0, none⟩ = some (.pointer (some ⟨b, 0, none⟩)) ∧ (w'.setCell ⟨bh, k, none⟩ (.int .i64 (fineV P k C))).cell? ⟨bs, 1, none⟩ = some (.pointer (some ⟨ba, 0, none⟩)) ∧ (w'.setCell ⟨bh, k, none⟩ (.int .i64 (fineV P k C))).cell? ⟨bs, 5, none⟩ = some (.slice (some ⟨bh, 0, none⟩) d d) ∧ (w'.setCell ⟨bh, k, none⟩ (.int .i64 (fineV P k C))).cell? ⟨bs, 7, none⟩ = some (.slice (some ⟨bt, 0, none⟩) d d) ∧ (w'.setCell ⟨bh, k, none⟩ (.int .i64 (fineV P k C))).cell? ⟨bt, k, none⟩ = some (.int .i64 Tk) ∧ (w'.setCell ⟨bh, k, none⟩ (.int .i64 (fineV P k C))).cell? ⟨ba, 3, none⟩ = some (.int .i64 st))) := fun w' hb => by
        have h := HNX.out w' hb
        exact ⟨h.s.at' 0 (by omega), h.s.at' 1 (by omega), h.s.at' 5 (by omega), h.s.at' 7 (by omega), by rw [hTk]; exact h.up.at' k hlt, (HA.out.below h.bel).step⟩
      clear hTk hCC
      go_wp2
      go_region_held3 (fun w' => w'.cell? ⟨bs, 0, none⟩ = some (.pointer (some ⟨b, 0, none⟩)) ∧ w'.cell? ⟨bs, 1, none⟩ = some (.pointer (some ⟨ba, 0, none⟩)) ∧ w'.cell? ⟨bs, 5, none⟩ = some (.slice (some ⟨bh, 0, none⟩) d d) ∧ w'.cell? ⟨bs, 7, none⟩ = some (.slice (some ⟨bt, 0, none⟩) d d) ∧ w'.cell? ⟨bt, k, none⟩ = some (.int .i64 Tk) ∧ w'.cell? ⟨ba, 3, none⟩ = some (.int .i64 st))
        ((first | assumption | (refine HST.out _ ?_; assumption) | (refine hS.out _ ?_; (first | assumption | go_grown))))
        (first | fail | (go_simp; go_at_call 26; (with_reducible refine (HONE.out _ _ (by omega) b2 (by first | exact HBL.out | exact bthen HBL.out (by go_grown))).mono ?_); rintro e w3 ⟨rfl, hb3⟩; have hz3 : Below W5.heap.size W5 w3 := (by first | exact hb3 | exact bthen (by go_grown) hb3); obtain ⟨⟨y, hy⟩, hyz⟩ := HCEL.out w3 hz3))
      have HS3 := Lib.hid (HNX.out w3 hz3)
      clear hS HST HNX HCEL hz3 hb3 hy hyz e0 e1 e4 e6 e7 e8 HBL HS2
      generalize w3.setCell ⟨bh, k, none⟩ (.int .i64 (fineV P k C)) = W7 at *
      go_wp2
      go_roundw
      case rel => exact ⟨k + 1, by omega, by go_num, HS3⟩
      case measure => simp [intOf]; omega
    · obtain rfl : d = k := by omega
      have HS9 : Hid (SrcA w0 b ba bs bl bh bf bt d st dist F T (fun i => fineV P i (F i * st)) (fun i => fineV P i (T i * st)) bv far wr) := HS.out.congr (fun _ _ => rfl) (fun _ _ => rfl) (fun i hi => if_pos hi) (fun i hi => if_pos hi)
      clear HS hlt
      have e0 : wr.cell? ⟨bs, 0, none⟩ = some (.pointer (some ⟨b, 0, none⟩)) := HS9.out.s.at' 0 (by omega)
      have e4 : wr.cell? ⟨bs, 4, none⟩ = some (.slice (some ⟨bl, 0, none⟩) d d) := HS9.out.s.at' 4 (by omega)
      have e5 : wr.cell? ⟨bs, 5, none⟩ = some (.slice (some ⟨bh, 0, none⟩) d d) := HS9.out.s.at' 5 (by omega)
      have HHU : Hid (∀ W, Below wr.heap.size wr W → Calls Try.prog 32 #[.pointer (some ⟨b, 3, none⟩), .slice (some ⟨bl, 0, none⟩) d d, .slice (some ⟨bh, 0, none⟩) d d] W (fun e w' => ∃ (gl gm : Nat) (lo hi : Nat → Int), e = .returned (.tuple #[.slice (some ⟨gl, 0, none⟩) 3 3, .slice (some ⟨gm, 0, none⟩) 3 3]) ∧ FTab (Value.int .i64) w' gl 3 lo ∧ FTab (Value.int .i64) w' gm 3 hi ∧
          (∀ o, o < 3 → (-65535 ≤ lo o ∧ lo o ≤ 65535) ∧ -65535 ≤ hi o ∧ hi o ≤ 65535) ∧ (InB d F T m → ∀ o, o < 3 → lo o ≤ tv o ∧ tv o ≤ hi o) ∧ Below W.heap.size W w')) := fun W hb => by
        have hs := HS9.out.below hb
        have hl1 : ((List.range d).map fun i => fineV P i (F i * st)).length = d := by rw [List.length_map, List.length_range]
        have hl2 : ((List.range d).map fun i => fineV P i (T i * st)).length = d := by rw [List.length_map, List.length_range]
        have hgd : ∀ (f : Nat → Int) i, i < d → ((List.range d).map f).getD i 0 = f i := fun f i hi => by
          rw [List.getD_eq_getElem?_getD, List.getElem?_eq_getElem (by rw [List.length_map, List.length_range]; exact hi), List.getElem_map, List.getElem_range]
          rfl
        have h := hull_any b P oi ci oc cc ov cv (some ⟨bl, 0, none⟩) ((List.range d).map fun i => fineV P i (F i * st)) d (some ⟨bh, 0, none⟩) ((List.range d).map fun i => fineV P i (T i * st)) d W (HH.out.below hs.bel) HOK.out hs.lo.flat hs.hi.flat (by rw [hl1]; exact HD.out) (by rw [hl1, hl2]) (fun i hi => by
          rw [hl1] at hi
          obtain ⟨q0, q1, q2⟩ := HB.out i hi
          have q3 : 0 ≤ F i * st := Int.mul_nonneg q0 (by omega)
          have q4 : F i * st ≤ T i * st := Int.mul_le_mul_of_nonneg_right q1 (by omega)
          have q5 : i < P.inks.length := by rw [← HD.out]; exact hi
          rw [hgd _ i hi, hgd _ i hi]
          exact ⟨(fineV_bd HOK.out q5 q3 (by omega)).1, fineV_mono HOK.out q5 q3 q4 q2, (fineV_bd HOK.out q5 (by omega) q2).2⟩)
        rw [hl1, hl2] at h
        refine h.mono fun e w' hr => ?_
        obtain ⟨gl, gm, lo', hi', rfl, h1, h2, h3, h4, h5⟩ := hr
        exact ⟨gl, gm, lo', hi', rfl, h1, h2, h3, fun hin o ho => by
          rw [HTV.out.1 o ho]
          exact hull_holds HOK.out HD.out (by omega) (fun i hi => ⟨(HB.out i hi).1, (HB.out i hi).2.2⟩) hin h4 o ho, h5⟩
      have hS : Hid (∀ w', Below wr.heap.size wr w' → (w'.cell? ⟨bs, 0, none⟩ = some (.pointer (some ⟨b, 0, none⟩)) ∧ w'.cell? ⟨bs, 4, none⟩ = some (.slice (some ⟨bl, 0, none⟩) d d) ∧ w'.cell? ⟨bs, 5, none⟩ = some (.slice (some ⟨bh, 0, none⟩) d d))) := fun w' hb => ⟨keepCell hb e0, keepCell hb e4, keepCell hb e5⟩
      go_wp2
      go_region_held3 (fun w' => w'.cell? ⟨bs, 0, none⟩ = some (.pointer (some ⟨b, 0, none⟩)) ∧ w'.cell? ⟨bs, 4, none⟩ = some (.slice (some ⟨bl, 0, none⟩) d d) ∧ w'.cell? ⟨bs, 5, none⟩ = some (.slice (some ⟨bh, 0, none⟩) d d))
        ((first | assumption | (refine hS.out _ ?_; (first | assumption | go_grown))))
        (first | fail | (go_simp; go_at_call 32; (with_reducible refine (HHU.out _ (by first | exact Below.refl _ _ | go_grown)).mono ?_); rintro e w3 ⟨gl, gm, lo', hi', rfl, hTl, hTm, hbd, hcv, hb3⟩; have hz3 : Below wr.heap.size wr w3 := (by first | exact hb3 | exact bthen (by go_grown) hb3)))
      have HSS : Hid (SrcA w0 b ba bs bl bh bf bt d st dist F T (fun i => fineV P i (F i * st)) (fun i => fineV P i (T i * st)) bv far w3 ∧ FTab (Value.int .i64) w3 gl 3 lo' ∧ FTab (Value.int .i64) w3 gm 3 hi') := ⟨HS9.out.below hz3, hTl, hTm⟩
      have HBD := Lib.hid hbd
      have HCV := Lib.hid hcv
      clear hTl hTm hbd hcv hb3 hz3 hS HHU e0 e4 e5 HS9 HH HOK HB HG
      have f1 : w3.cell? ⟨bs, 1, none⟩ = some (.pointer (some ⟨ba, 0, none⟩)) := HSS.out.1.s.at' 1 (by omega)
      have hask := HA.out.below HSS.out.1.bel
      have t0 := hask.t0
      have t1 := hask.t1
      have t2 := hask.t2
      clear hask
      obtain ⟨T0, hT0⟩ : ∃ t, t = tv 0 := ⟨_, rfl⟩
      obtain ⟨T1, hT1⟩ : ∃ t, t = tv 1 := ⟨_, rfl⟩
      obtain ⟨T2, hT2⟩ : ∃ t, t = tv 2 := ⟨_, rfl⟩
      rw [← hT0] at t0
      rw [← hT1] at t1
      rw [← hT2] at t2
      have HT3 := Lib.hid (And.intro hT0 (And.intro hT1 hT2))
      clear hT0 hT1 hT2
      go_wp2
      go_quiet (fail)
      have HS2 : Hid (SrcA w0 b ba bs bl bh bf bt d st dist F T (fun i => fineV P i (F i * st)) (fun i => fineV P i (T i * st)) bv far (w3.drewN nq) ∧ FTab (Value.int .i64) (w3.drewN nq) gl 3 lo' ∧ FTab (Value.int .i64) (w3.drewN nq) gm 3 hi') := ⟨HSS.out.1.drewN nq, HSS.out.2.1.drewN nq, HSS.out.2.2.drewN nq⟩
      clear HSS f1 t0 t1 t2 
      go_wp2
      generalize w3.drewN nq = W4 at *
      go_loopw [6, 116] (fun s6 s116 wr => ∃ j : Nat, j ≤ 3 ∧ s116 = .int .i64 j ∧ s6 = .int .i64 (gapSum lo' hi' tv j) ∧ Hid (SrcA w0 b ba bs bl bh bf bt d st dist F T (fun i => fineV P i (F i * st)) (fun i => fineV P i (T i * st)) bv far wr ∧ FTab (Value.int .i64) wr gl 3 lo' ∧ FTab (Value.int .i64) wr gm 3 hi')) (fun _ s116 _ => 3 - (intOf s116).toNat)
      case atStart => exact ⟨0, by omega, rfl, rfl, HS2⟩
      case round =>
        clear HS2
        obtain ⟨j, hj, rfl, rfl, HS2⟩ := hrel
        by_cases hj3 : j < 3
        · have u1 := HS2.out.2.1.at' j hj3
          have u2 := HS2.out.2.2.at' j hj3
          have bb := HBD.out j hj3
          obtain ⟨g1, g2⟩ := gapSum_bd HBD.out HTV.out.2 j (by omega)
          obtain ⟨g3, g4⟩ := gapSum_bd HBD.out HTV.out.2 (j + 1) (by omega)
          have gb := gap_bd bb.1 bb.2 (HTV.out.2 j hj3)
          have gm2 := mul_bd _ _ _ _ gb.1 gb.2 gb.1 gb.2
          have tb := HTV.out.2 j hj3
          obtain ⟨N1, hN1⟩ : ∃ n, n = gapSum lo' hi' tv (j + 1) := ⟨_, rfl⟩
          obtain ⟨N0, hN0⟩ : ∃ n, n = gapSum lo' hi' tv j := ⟨_, rfl⟩
          have hNN : N0 + gapV (lo' j) (hi' j) (tv j) * gapV (lo' j) (hi' j) (tv j) = N1 := by rw [hN0, hN1]; rfl
          have hgv : (if (if lo' j - tv j < tv j - hi' j then tv j - hi' j else lo' j - tv j) < 0 then 0 else if lo' j - tv j < tv j - hi' j then tv j - hi' j else lo' j - tv j) = gapV (lo' j) (hi' j) (tv j) := rfl
          have HN1 := Lib.hid hN1
          rw [← hN0]
          rw [← hN0] at g1 g2
          rw [← hN1] at g3 g4
          obtain ⟨x, hx⟩ : ∃ x, x = lo' j := ⟨_, rfl⟩
          obtain ⟨y, hy⟩ : ∃ y, y = hi' j := ⟨_, rfl⟩
          obtain ⟨t, ht⟩ : ∃ t, t = tv j := ⟨_, rfl⟩
          rw [← hx, ← hy, ← ht] at hgv hNN gb gm2
          rw [← hx] at u1 bb
          rw [← hy] at u2 bb
          rw [← ht] at tb
          obtain ⟨g, hg⟩ : ∃ g, g = gapV x y t := ⟨_, rfl⟩
          rw [← hg] at hgv hNN gb gm2
          have w1 : IntKind.i64.wrap (x - t) = x - t := IntWalk.i64_in _ (by omega)
          have w2 : IntKind.i64.wrap (t - y) = t - y := IntWalk.i64_in _ (by omega)
          have w3' : IntKind.i64.wrap (g * g) = g * g := IntWalk.i64_in _ (by omega)
          have w4' : IntKind.i64.wrap (N0 + g * g) = N1 := by rw [hNN]; exact IntWalk.i64_in _ (by omega)
          clear hN1 hN0 hx hy hg hNN
          rcases (show j = 0 ∨ j = 1 ∨ j = 2 by omega) with rfl | rfl | rfl
          · rw [← HT3.out.1] at ht
            subst ht
            have ix := fun W => (run_ix3 t T1 T2 W).1
            go_wp2
            go_quiet (fail)
            go_wp2
            go_roundw
            case rel => exact ⟨1, by omega, by go_num, by rw [HN1.out], HS2.out.1.drewN nq, HS2.out.2.1.drewN nq, HS2.out.2.2.drewN nq⟩
            case measure => simp [intOf]
          · rw [← HT3.out.2.1] at ht
            subst ht
            have ix := fun W => (run_ix3 T0 t T2 W).2.1
            go_wp2
            go_quiet (fail)
            go_wp2
            go_roundw
            case rel => exact ⟨2, by omega, by go_num, by rw [HN1.out], HS2.out.1.drewN nq, HS2.out.2.1.drewN nq, HS2.out.2.2.drewN nq⟩
            case measure => simp [intOf]
          · rw [← HT3.out.2.2] at ht
            subst ht
            have ix := fun W => (run_ix3 T0 T1 t W).2.2
            go_wp2
            go_quiet (fail)
            go_wp2
            go_roundw
            case rel => exact ⟨3, by omega, by go_num, by rw [HN1.out], HS2.out.1.drewN nq, HS2.out.2.1.drewN nq, HS2.out.2.2.drewN nq⟩
            case measure => simp [intOf]
        · obtain rfl : j = 3 := by omega
          go_wp2
          go_ret
          refine ⟨_, _, _, rfl, fun hin => ?_, HS2.out.1⟩
          exact gapSum_zero (fun o ho => HCV.out hin o ho)
end Go.Proofs.Ytiokmfmcmfbjoaa
