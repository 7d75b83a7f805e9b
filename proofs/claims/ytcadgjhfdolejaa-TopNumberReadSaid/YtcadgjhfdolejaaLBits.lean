/-
  linear.Bits: plain, and its walk. Own text.
-/
import Derived.Test.YtcadgjhfdolejaaNum2
namespace Go.Proofs.Ytcadgjhfdolejaa
open Go.RowKit
set_option linter.unusedVariables false
/-- Where bar k begins. -/
def posV (f : Nat → Nat) (u : Nat) : Nat → Nat
  | 0 => 0
  | k + 1 => posV f u k + f k * u
theorem posV_mono (f : Nat → Nat) (u : Nat) {a b : Nat} (h : a ≤ b) : posV f u a ≤ posV f u b := by
  induction b with
  | zero => rw [Nat.le_zero.1 h]; exact Nat.le_refl _
  | succ b ih =>
    by_cases e : a = b + 1
    · rw [e]; exact Nat.le_refl _
    · have := ih (by omega)
      show _ ≤ posV f u b + f b * u
      omega
/-- A dark column. -/
def barB (f : Nat → Nat) (u N : Nat) (X : Int) : Bool := (List.range N).any fun k => decide (k % 2 = 0 ∧ (posV f u k : Int) ≤ X ∧ X < (posV f u (k + 1) : Int))
theorem barB_at {f : Nat → Nat} {u N k : Nat} (hk : k < N) {x : Nat} (h1 : posV f u k ≤ x) (h2 : x < posV f u (k + 1)) : barB f u N x = decide (k % 2 = 0) := by
  refine bool_ext ?_
  unfold barB
  rw [List.any_eq_true]
  simp only [decide_eq_true_eq, List.mem_range]
  constructor
  · rintro ⟨j, hj, h3, h4, h5⟩
    by_cases e : j = k
    · rw [← e]; exact h3
    · rcases Nat.lt_or_gt_of_ne e with h | h
      · have := posV_mono f u (show j + 1 ≤ k by omega); omega
      · have := posV_mono f u (show k + 1 ≤ j by omega); omega
  · intro h3
    exact ⟨k, hk, h3, by omega, by omega⟩
/-- The bars up to column x. -/
def barP (f : Nat → Nat) (u N R x : Nat) : Plane := fun X Y => decide (0 ≤ Y ∧ Y < (R : Int) ∧ 0 ≤ X ∧ X < (x : Int)) && barB f u N X
def barQ (f : Nat → Nat) (u N R x t : Nat) : Plane := fun X Y => barP f u N R x X Y || decide (X = (x : Int) ∧ 0 ≤ Y ∧ Y < (t : Int))
theorem barP_zero (f : Nat → Nat) (u N R : Nat) : barP f u N R 0 = noneP := by
  funext X Y
  refine bool_ext ⟨fun h => ?_, fun h => by cases h⟩
  simp only [barP, Bool.and_eq_true, decide_eq_true_eq] at h
  omega
theorem barQ_zero (f : Nat → Nat) (u N R x : Nat) : barQ f u N R x 0 = barP f u N R x := by
  funext X Y
  refine bool_ext ?_
  simp only [barQ, Bool.or_eq_true, decide_eq_true_eq]
  constructor
  · rintro (h | h)
    · exact h
    · omega
  · exact .inl
theorem barQ_mark (f : Nat → Nat) (u N R x t : Nat) : markP (barQ f u N R x t) x t = barQ f u N R x (t + 1) := by
  funext X Y
  refine bool_ext ?_
  simp only [barQ, markP, Bool.or_eq_true, Bool.and_eq_true, decide_eq_true_eq]
  constructor
  · rintro ((h | h) | h)
    · exact .inl h
    · exact .inr (by omega)
    · exact .inr (by omega)
  · rintro (h | h)
    · exact .inl (.inl h)
    · by_cases e : Y = (t : Int)
      · exact .inr ⟨h.1, e⟩
      · exact .inl (.inr (by omega))
theorem barQ_all {f : Nat → Nat} {u N R x : Nat} (h : barB f u N x = true) : barQ f u N R x R = barP f u N R (x + 1) := by
  funext X Y
  refine bool_ext ?_
  simp only [barQ, barP, Bool.or_eq_true, Bool.and_eq_true, decide_eq_true_eq]
  constructor
  · rintro (⟨h1, h2⟩ | h1)
    · exact ⟨by omega, h2⟩
    · refine ⟨by omega, ?_⟩
      rw [h1.1]; exact h
  · rintro ⟨h1, h2⟩
    by_cases e : X = (x : Int)
    · exact .inr ⟨e, h1.1, h1.2.1⟩
    · exact .inl ⟨by omega, h2⟩
theorem barP_skip {f : Nat → Nat} {u N R x : Nat} (h : barB f u N x = false) : barP f u N R (x + 1) = barP f u N R x := by
  funext X Y
  refine bool_ext ?_
  simp only [barP, Bool.and_eq_true, decide_eq_true_eq]
  constructor
  · rintro ⟨h1, h2⟩
    by_cases e : X = (x : Int)
    · rw [e, h] at h2; cases h2
    · exact ⟨by omega, h2⟩
  · rintro ⟨h1, h2⟩
    exact ⟨by omega, h2⟩
theorem NRow.heap {w w' : World} {b o n : Nat} {f : Nat → Int} (h : NRow w b o n f) (hb : w'.heap[b]? = w.heap[b]?) : NRow w' b o n f := fun i hi => by
  rw [World.cell?_of_block (w := w) (a := ⟨b, o + i, none⟩) hb]
  exact h i hi
theorem lbitsRes : Try.f6.results = #[.cell 6 29, .tmp 7] := rfl
set_option maxRecDepth 100000 in
set_option maxHeartbeats 2000000 in
theorem lbits_any (l : List UInt8) (hl : DigL l) (h1 : 1 ≤ l.length) (h20 : l.length ≤ 20) (u R N W : Nat) (hu : 1 ≤ u ∧ u ≤ 8) (hR : 1 ≤ R ∧ R ≤ 1024) (f : Nat → Nat) (hN : (widV l).length = N) (hN0 : 1 ≤ N) (hN9 : N ≤ 100) (hf : ∀ k, k < N → (widV l).getD k 0 = (f k : Int)) (hf9 : ∀ k, k < N → f k ≤ 100) (hW : posV f u N = W) (hW1 : 1 ≤ W ∧ W ≤ 1024) (w : World) :
    Calls Try.prog 6 #[.string (strB l), .int .i64 u, .int .i64 R] w (RetBits0 W R (barP f u N R W) w) := by
  obtain ⟨wa, hwa⟩ : ∃ wa, wa = w.alloc (.cells #[.int .i64 0, .int .i64 0, .slice none 0 0] 29) := ⟨_, rfl⟩
  have HWA : Hid (w.alloc (.cells #[.int .i64 0, .int .i64 0, .slice none 0 0] 29) = wa) := hwa.symm
  have hba : Below w.heap.size w wa := by rw [hwa]; exact balloc (Below.refl _ w) _
  have hza : wa.heap.size = w.heap.size + 1 := by rw [hwa]; simp
  have hta : T3 wa w.heap.size (.int .i64 0) (.int .i64 0) (.slice none 0 0) := by rw [hwa]; exact T3.new w _ _ _ _
  have HEN := Lib.hid (encode_any l hl h1 h20 wa)
  have HBL : Hid (∀ W', Calls Try.prog 15 #[.int .i64 W, .int .i64 R] W' (RetBits W R noneP W')) := fun W' => blank_any W R hW1.2 hR.2 W'
  have HA : Hid (Below w.heap.size w wa ∧ wa.heap.size = w.heap.size + 1 ∧ T3 wa w.heap.size (.int .i64 0) (.int .i64 0) (.slice none 0 0)) := ⟨hba, hza, hta⟩
  have HF := Lib.hid hf
  have HF9 := Lib.hid hf9
  have HW : Hid (posV f u N = W) := hW
  have HNL : Hid ((widV l).length = N) := hN
  have u1 : decide ((u : Int) < 1) = false := decide_eq_false (by omega)
  have u1' : decide (u = 0) = false := decide_eq_false (by omega)
  have u2 : decide ((8 : Int) < (u : Int)) = false := decide_eq_false (by omega)
  have u2' : decide (8 < u) = false := decide_eq_false (by omega)
  have r1 : decide ((R : Int) < 1) = false := decide_eq_false (by omega)
  have r1' : decide (R = 0) = false := decide_eq_false (by omega)
  have r2 : decide ((1024 : Int) < (R : Int)) = false := decide_eq_false (by omega)
  have r2' : decide (1024 < R) = false := decide_eq_false (by omega)
  have w9 : ¬ (1024 : Int) < (W : Int) := by omega
  have w9' : ¬ 1024 < W := by omega
  have HU := Lib.hid hu
  have HRR := Lib.hid hR
  have HW1 := Lib.hid hW1
  obtain ⟨S, hS⟩ : ∃ S, S = strB l := ⟨_, rfl⟩
  rw [← hS] at HEN ⊢
  clear hwa hba hza hta hl h1 h20 hf hf9 hW hN hu hR hW1 hS
  go_enter Try.func6, Try.ntmps6
  go_upto_region 1 with fail
  rw [HWA.out]
  clear HWA
  go_wp2_with fail
  refine HEN.out.mono ?_
  rintro e w1 ⟨v, rfl, ho1, hb1⟩
  obtain ⟨g8, c8, rfl, -, hg8, hl8, hnr⟩ := NRow.own ho1 (by intro e; have := HNL.out; rw [e] at this; simp at this; omega)
  rw [HNL.out] at hnr ⊢
  have HNR : Hid (NRow w1 g8 0 N (fun k => (f k : Int))) := fun i hi => by
    have e := hnr i hi
    rw [e]
    exact congrArg (fun x => some (Value.int .i64 x)) (HF.out i hi)
  have HB1 : Hid (Below w.heap.size w w1 ∧ g8 < w1.heap.size ∧ w.heap.size < g8 ∧ w.heap.size + 1 ≤ w1.heap.size ∧ T3 w1 w.heap.size (.int .i64 0) (.int .i64 0) (.slice none 0 0)) := by
    have h2 := HA.out
    have h3 := hb1.size
    exact ⟨bthen h2.1 hb1, hl8, by omega, by omega, h2.2.2.below hb1⟩
  clear HEN ho1 hb1 hg8 hl8 hnr HA HF HNL
  go_wp2_with fail
  go_loopw [10, 44] (fun s i wr => ∃ k : Nat, k ≤ N ∧ i = .int .i64 k ∧ s = .int .i64 (posV f u k : Nat) ∧ w1 = wr) (fun _ i _ => N - (intOf i).toNat)
  case atStart => exact ⟨0, by omega, rfl, rfl, rfl⟩
  case round =>
    obtain ⟨k, hk, rfl, rfl, rfl⟩ := hrel
    by_cases hlt : k < N
    · have kd : (k : Int) < (N : Int) := by omega
      have kk : IntKind.i64.wrap ((k : Int) + 1) = (k : Int) + 1 := IntWalk.i64_in _ (by omega)
      have hm := posV_mono f u (show k + 1 ≤ N by omega)
      have hwk := HW.out
      have hw1 := HW1.out
      obtain ⟨x, hx⟩ : ∃ x, x = f k := ⟨_, rfl⟩
      have hc := HNR.out k hlt
      simp only [← hx, Nat.zero_add] at hc
      obtain ⟨s, hs⟩ : ∃ s, s = posV f u k := ⟨_, rfl⟩
      obtain ⟨s2, hs2⟩ : ∃ s, s = posV f u (k + 1) := ⟨_, rfl⟩
      obtain ⟨p, hp⟩ : ∃ p, p = x * u := ⟨_, rfl⟩
      have e2 : s2 = s + p := by rw [hs2, hs, hp, hx]; rfl
      rw [← hs2, hwk] at hm
      have q1 : IntKind.i64.wrap ((x : Int) * (u : Int)) = (p : Int) := by rw [hp, ← Int.natCast_mul]; exact IntWalk.i64_in _ (by rw [← hp]; omega)
      have q2 : IntKind.i64.wrap ((s : Int) + (p : Int)) = (s2 : Int) := by rw [e2, Int.natCast_add]; exact IntWalk.i64_in _ (by omega)
      have HS2 : Hid (posV f u (k + 1) = s2) := hs2.symm
      rw [← hs]
      clear hx hs hs2 hp e2 hm hwk hw1
      go_wp2_with fail
      go_roundw
      case rel => exact ⟨k + 1, by omega, by go_num, by rw [HS2.out], trivial⟩
      case measure => simp [intOf]; omega
    · obtain rfl : N = k := by omega
      rw [HW.out]
      have HBL1 := Lib.hid (HBL.out w1)
      obtain ⟨ml, hml⟩ : ∃ m, m = strV W * R := ⟨_, rfl⟩
      have HM : Hid (strV W * R = ml) := hml.symm
      clear hk hlt HBL hml
      go_wp2_with fail
      refine HBL1.out.mono ?_
      intro e w3 hret
      obtain ⟨d2, c2, rfl, hd2, l1, l2, l3, hb3⟩ := hret
      obtain ⟨W4, hW4⟩ : ∃ W4, W4 = w3.alloc (.cells #[.int .i64 W, .int .i64 R, .slice (some ⟨d2, 0, none⟩) ml c2] 29) := ⟨_, rfl⟩
      have hb4 : Below w3.heap.size w3 W4 := by rw [hW4]; exact balloc (Below.refl _ _) _
      have hz4 : w3.heap.size < W4.heap.size := by rw [hW4]; simp
      have HU4 : Hid (GnU w w.heap.size w3.heap.size d2 c2 W R W4 (barP f u N R 0) ∧ NRow W4 g8 0 N (fun k => (f k : Int))) := by
        have h1 := HB1.out
        have h2 := hb3.size
        refine ⟨⟨bthen h1.1 (bthen hb3 hb4), by rw [hW4, HM.out]; exact T3.new w3 _ _ _ _, (h1.2.2.2.2.below hb3).below hb4, by rw [barP_zero]; exact hd2.below hb4 l2, Nat.le_refl _, by omega, by omega, hz4, by omega, by omega, by omega, by omega, by omega, l3⟩, (HNR.out.below hb3).below hb4⟩
      have HNE : Hid (g8 ≠ d2) := by have := HB1.out; show _ ≠ _; omega
      rw [HM.out]
      have HW4 : Hid (w3.alloc (.cells #[.int .i64 W, .int .i64 R, .slice (some ⟨d2, 0, none⟩) ml c2] 29) = W4) := hW4.symm
      obtain ⟨g, hg⟩ : ∃ g, g = w3.heap.size := ⟨_, rfl⟩
      rw [← hg] at HU4
      have HG := Lib.hid hg
      clear hW4 hd2 l1 l2 l3 hb3 hb4 hz4 HB1 HBL1 hg HNR
      dsimp only
      go_upto_region 15 with fail
      rw [HW4.out, ← HG.out]
      clear HW4
      go_wp2_with fail
      go_loopw [14, 62] (fun s i wr => ∃ k : Nat, k ≤ N ∧ i = .int .i64 k ∧ s = .int .i64 (posV f u k : Nat) ∧ Hid (GnU w w.heap.size g d2 c2 W R wr (barP f u N R (posV f u k)) ∧ NRow wr g8 0 N (fun k => (f k : Int)))) (fun _ i _ => N - (intOf i).toNat)
      case atStart => exact ⟨0, by omega, rfl, rfl, HU4⟩
      case round =>
        clear HU4
        obtain ⟨k, hk, rfl, rfl, HX⟩ := hrel
        obtain ⟨wb, rfl⟩ : ∃ wb : World, wb = wr := ⟨_, rfl⟩
        by_cases hlt : k < N
        · have kd : (k : Int) < (N : Int) := by omega
          have kk : IntKind.i64.wrap ((k : Int) + 1) = (k : Int) + 1 := IntWalk.i64_in _ (by omega)
          have hm := posV_mono f u (show k + 1 ≤ N by omega)
          have hwk := HW.out
          have hw1 := HW1.out
          obtain ⟨x, hx⟩ : ∃ x, x = f k := ⟨_, rfl⟩
          have hc := HX.out.2 k hlt
          simp only [← hx, Nat.zero_add] at hc
          obtain ⟨s, hs⟩ : ∃ s, s = posV f u k := ⟨_, rfl⟩
          obtain ⟨s2, hs2⟩ : ∃ s, s = posV f u (k + 1) := ⟨_, rfl⟩
          obtain ⟨p, hp⟩ : ∃ p, p = x * u := ⟨_, rfl⟩
          have e2 : s2 = s + p := by rw [hs2, hs, hp, hx]; rfl
          rw [← hs2, hwk] at hm
          have q1 : IntKind.i64.wrap ((x : Int) * (u : Int)) = (p : Int) := by rw [hp, ← Int.natCast_mul]; exact IntWalk.i64_in _ (by rw [← hp]; omega)
          obtain ⟨bk, hbk⟩ : ∃ b, b = decide (k % 2 = 0) := ⟨_, rfl⟩
          have HBB : Hid (∀ i, i < p → barB f u N ((s + i : Nat) : Int) = bk) := fun i hi => by
            rw [hbk]
            exact barB_at hlt (by rw [← hs]; omega) (by rw [← hs2]; omega)
          have HBK := Lib.hid hbk
          have HS2 : Hid (posV f u (k + 1) = s2 ∧ s2 = s + p ∧ s + p ≤ W) := ⟨hs2.symm, e2, by omega⟩
          have HLT := Lib.hid hlt
          rw [← hs] at HX ⊢
          clear hx hs hs2 e2 hm hwk hp hbk hlt hk hw1
          go_wp2_with fail
          go_loopw [14, 70] (fun s' i wr => ∃ i0 X : Nat, i0 ≤ p ∧ i = .int .i64 i0 ∧ s' = .int .i64 X ∧ Hid (X = s + i0 ∧ GnU w w.heap.size g d2 c2 W R wr (barP f u N R (s + i0)) ∧ NRow wr g8 0 N (fun k => (f k : Int)))) (fun _ i _ => p - (intOf i).toNat)
          case atStart => exact ⟨0, s, by omega, rfl, rfl, rfl, HX⟩
          case round =>
            clear HX hc
            obtain ⟨i, X, hi, rfl, rfl, HY⟩ := hrel
            obtain ⟨wc, rfl⟩ : ∃ wb : World, wb = wr := ⟨_, rfl⟩
            by_cases hil : i < p
            · have id : (i : Int) < (p : Int) := by omega
              have ii : IntKind.i64.wrap ((i : Int) + 1) = (i : Int) + 1 := IntWalk.i64_in _ (by have := HS2.out; have := HW1.out; omega)
              have xx : IntKind.i64.wrap ((X : Int) + 1) = (X : Int) + 1 := IntWalk.i64_in _ (by have := HY.out.1; have := HS2.out; have := HW1.out; omega)
              have HY0 : Hid (GnU w w.heap.size g d2 c2 W R wc (barQ f u N R X 0) ∧ NRow wc g8 0 N (fun k => (f k : Int))) := by
                show GnU _ _ _ _ _ _ _ _ _ ∧ _
                rw [barQ_zero, HY.out.1]; exact HY.out.2
              have HXI := Lib.hid HY.out.1
              have HXW : Hid (X < W) := by have := HY.out.1; have := HS2.out; show _ < _; omega
              have HIL := Lib.hid hil
              have hbb := HBB.out i hil
              rw [← HY.out.1] at hbb
              have HBX := Lib.hid hbb
              clear HY hil hi hbb
              cases bk with
              | true =>
                have hk2 : k % 2 = 0 := of_decide_eq_true HBK.out.symm
                have k2 : (k : Int).tmod 2 = 0 := by rw [Int.tmod_eq_emod_of_nonneg (by omega)]; omega
                have k2' : (k : Int) % 2 = 0 := by omega
                go_wp2_with fail
                go_loopw [17] (fun i wr => ∃ t : Nat, t ≤ R ∧ i = .int .i64 t ∧ Hid (GnU w w.heap.size g d2 c2 W R wr (barQ f u N R X t) ∧ NRow wr g8 0 N (fun k => (f k : Int)))) (fun i _ => R - (intOf i).toNat)
                case atStart => exact ⟨0, by omega, rfl, HY0⟩
                case round =>
                  clear HY0
                  obtain ⟨t, ht, rfl, HZ⟩ := hrel
                  obtain ⟨wd, rfl⟩ : ∃ wb : World, wb = wr := ⟨_, rfl⟩
                  by_cases htl : t < R
                  · have td : (t : Int) < (R : Int) := by omega
                    have tt : IntKind.i64.wrap ((t : Int) + 1) = (t : Int) + 1 := IntWalk.i64_in _ (by have := HRR.out; omega)
                    have HMK : Hid (Calls Try.prog 16 #[.pointer (some ⟨g, 0, none⟩), .int .i64 X, .int .i64 t] wd (RetMark g d2 c2 W R (markP (barQ f u N R X t) X t) wd)) :=
                      mark_any g d2 c2 W R _ HW1.out.2 HRR.out.2 (fun e => HZ.out.1.lt.2.2.2.2.2.2.2.2.1 e.symm) X t HXW.out htl _ HZ.out.1.at'
                    have HTL := Lib.hid htl
                    clear ht htl
                    go_wp2_with fail
                    refine HMK.out.mono ?_
                    rintro e w8 ⟨rfl, hb8, ho8⟩
                    have HNX : Hid (GnU w w.heap.size g d2 c2 W R w8 (barQ f u N R X (t + 1)) ∧ NRow w8 g8 0 N (fun k => (f k : Int))) := by
                      refine ⟨?_, HZ.out.2.heap (ho8.hp _ HNE.out)⟩
                      rw [← barQ_mark]
                      exact HZ.out.1.mark hb8 ho8
                    clear HZ HMK hb8 ho8
                    go_wp2_with fail
                    go_roundw
                    case rel => exact ⟨t + 1, HTL.out, by go_num, HNX⟩
                    case measure => have := HTL.out; simp [intOf]; omega
                  · obtain rfl : R = t := by omega
                    have HNX : Hid (X + 1 = s + (i + 1) ∧ GnU w w.heap.size g d2 c2 W R wd (barP f u N R (s + (i + 1))) ∧ NRow wd g8 0 N (fun k => (f k : Int))) := by
                      have e : s + (i + 1) = X + 1 := by have := HXI.out; omega
                      refine ⟨e.symm, ?_, HZ.out.2⟩
                      rw [e, ← barQ_all HBX.out]
                      exact HZ.out.1
                    clear HZ
                    go_wp2_with fail
                    go_roundw
                    case rel => exact ⟨i + 1, X + 1, HIL.out, by go_num, by go_num, HNX⟩
                    case measure => have := HIL.out; simp [intOf]; omega
              | false =>
                have hk2 : k % 2 = 1 := by have h := of_decide_eq_false HBK.out.symm; omega
                have k2 : (k : Int).tmod 2 = 1 := by rw [Int.tmod_eq_emod_of_nonneg (by omega)]; omega
                have k2' : (k : Int) % 2 = 1 := by omega
                go_wp2_with fail
                go_loopw [17] (fun i wr => i = .int .i64 0 ∧ wc = wr) (fun _ _ => 0)
                case atStart => exact ⟨rfl, rfl⟩
                case round =>
                  obtain ⟨rfl, rfl⟩ := hrel
                  have HNX : Hid (X + 1 = s + (i + 1) ∧ GnU w w.heap.size g d2 c2 W R wc (barP f u N R (s + (i + 1))) ∧ NRow wc g8 0 N (fun k => (f k : Int))) := by
                    have e : s + (i + 1) = X + 1 := by have := HXI.out; omega
                    refine ⟨e.symm, ?_, HY0.out.2⟩
                    have e2 := HY0.out.1
                    rw [barQ_zero, ← barP_skip HBX.out] at e2
                    rw [e]
                    exact e2
                  clear HY0
                  go_wp2_with fail
                  go_roundw
                  case rel => exact ⟨i + 1, X + 1, HIL.out, by go_num, by go_num, HNX⟩
                  case measure => have := HIL.out; simp [intOf]; omega
            · obtain rfl : p = i := by omega
              have HNX : Hid (GnU w w.heap.size g d2 c2 W R wc (barP f u N R (posV f u (k + 1))) ∧ NRow wc g8 0 N (fun k => (f k : Int))) := by
                rw [HS2.out.1, HS2.out.2.1]; exact HY.out.2
              have HXE : Hid (X = posV f u (k + 1)) := by show _ = _; rw [HS2.out.1, HS2.out.2.1]; exact HY.out.1
              clear HY hi hil
              go_wp2_with fail
              go_roundw
              case rel => exact ⟨k + 1, HLT.out, by go_num, by rw [HXE.out], HNX⟩
              case measure => have := HLT.out; simp [intOf]; omega
        · obtain rfl : N = k := by omega
          have hx := HX.out.1
          rw [HW.out] at hx
          obtain ⟨l1, l2, l3, l4, l5, l6, l7, l8, l9, l10⟩ := hx.lt
          have z0 := hx.tab.c0
          have z1 := hx.tab.c1
          have z2 := hx.tab.c2
          have r0 := hx.res.c0
          have r1 := hx.res.c1
          have r2 := hx.res.c2
          have rf := hx.res.fr
          obtain ⟨hT9, hO9⟩ := res_set (x := .int .i64 W) (y := .int .i64 R) (z := .slice (some ⟨d2, 0, none⟩) ml c2) hx.res
          have HF : Hid (RetBits0 W R (barP f u N R W) w (.returned (.tuple #[.agg #[.int .i64 W, .int .i64 R, .slice (some ⟨d2, 0, none⟩) ml c2], .int .i64 0])) (resW wb w.heap.size (.int .i64 W) (.int .i64 R) (.slice (some ⟨d2, 0, none⟩) ml c2))) :=
            ⟨d2, c2, by rw [HM.out], hx.dat.heap (hO9.hp d2 l8), l5, by rw [hO9.sz]; exact l6, l10, hO9.bel hx.bel l1⟩
          rw [HM.out] at z2
          have HT9 := Lib.hid hT9
          clear hx HX hT9 hO9 HM hk hlt l1 l2 l3 l4 l5 l6 l7 l8 l9 l10
          repeat (first | go_values | go_skip | go_guarded | go_step | go_upon)
          obtain ⟨W9, hW9⟩ : ∃ W9, W9 = resW wb w.heap.size (.int .i64 W) (.int .i64 R) (.slice (some ⟨d2, 0, none⟩) ml c2) := ⟨_, rfl⟩
          rw [← hW9] at HF HT9
          unfold resW at hW9
          rw [← hW9]
          have e0 := HT9.out.c0
          have e1 := HT9.out.c1
          have e2 := HT9.out.c2
          clear hW9
          refine bodyPost_ret (v := .tuple #[.agg #[.int .i64 W, .int .i64 R, .slice (some ⟨d2, 0, none⟩) ml c2], .int .i64 0]) (by simp only [results, lbitsRes]; go_simp) rfl ?_
          exact HF.out
end Go.Proofs.Ytcadgjhfdolejaa
