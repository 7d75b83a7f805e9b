/-
  Rows of numbers in memory; the walk of linear.sum. Own text.
-/
import Derived.Test.YtcadgjhfdolejaaVal
namespace Go.Proofs.Ytcadgjhfdolejaa
open Go.RowKit
set_option linter.unusedVariables false
/-- n numbers in memory. -/
def NRow (w : World) (b o n : Nat) (f : Nat → Int) : Prop := ∀ i, i < n → w.cell? ⟨b, o + i, none⟩ = some (.int .i64 (f i))
theorem NRow.below {w w' : World} {b o n : Nat} {f : Nat → Int} (h : NRow w b o n f) (hb : Below w.heap.size w w') : NRow w' b o n f := fun i hi => keepCell hb (h i hi)
theorem NRow.cut {w : World} {b o n : Nat} {f : Nat → Int} (h : NRow w b o n f) (k m : Nat) (hm : k + m ≤ n) : NRow w b (o + k) m (fun i => f (k + i)) := fun i hi => by
  have := h (k + i) (by omega)
  rw [Nat.add_assoc]
  exact this
theorem NRow.own {w : World} {base : Nat} {e : TypeId} {v : Value} {xs : List Int} (h : Own w base e 1 encInt v xs) (hn : xs ≠ []) : ∃ g cap, v = .slice (some ⟨g, 0, none⟩) xs.length cap ∧ xs.length ≤ cap ∧ base ≤ g ∧ g < w.heap.size ∧ NRow w g 0 xs.length (fun i => xs.getD i 0) := by
  obtain ⟨g, cap, rfl, h1, h2, h3⟩ := Own.cap h hn
  obtain ⟨oa, cap2, e2, -, hf⟩ := h.flat (fun _ => rfl)
  cases e2
  refine ⟨g, cap, rfl, h1, h2, h3, fun i hi => ?_⟩
  obtain ⟨b, off, e3, hc⟩ := hf.int hi
  cases e3
  rw [hc]
  show _ = some (Value.int .i64 (xs.getD i 0))
  rw [List.getD_eq_getElem?_getD, List.getElem?_eq_getElem hi]
  rfl
/-- The weighted sum of the first k. -/
def sumK (f : Nat → Int) : Nat → Int
  | 0 => 0
  | k + 1 => sumK f k + ((k : Int) + 1) * f k
theorem sumK_bd {f : Nat → Int} {n : Nat} (hf : ∀ i, i < n → 0 ≤ f i ∧ f i ≤ 1000) (hn : n ≤ 100) : ∀ k, k ≤ n → 0 ≤ sumK f k ∧ sumK f k ≤ k * 100000
  | 0, _ => by simp [sumK]
  | k + 1, h => by
    have h1 := sumK_bd hf hn k (by omega)
    have h2 := mul_bd ((k : Int) + 1) (f k) 100 1000 (by omega) (by omega) (hf k (by omega)).1 (hf k (by omega)).2
    unfold sumK
    rw [Int.natCast_add]
    omega
def sumV (f : Nat → Int) (n : Nat) : Int := sumK f n % 101
theorem sumV_bd (f : Nat → Int) (n : Nat) : 0 ≤ sumV f n ∧ sumV f n ≤ 100 := by unfold sumV; omega
theorem sumK_congr {f g : Nat → Int} : ∀ n, (∀ i, i < n → f i = g i) → sumK f n = sumK g n
  | 0, _ => rfl
  | k + 1, h => by unfold sumK; rw [sumK_congr k (fun i hi => h i (by omega)), h k (by omega)]
set_option maxRecDepth 100000 in
set_option maxHeartbeats 4000000 in
theorem sum_any (b o n c : Nat) (f : Nat → Int) (hf : ∀ i, i < n → 0 ≤ f i ∧ f i ≤ 1000) (hn : n ≤ 100) (w : World) (hr : NRow w b o n f) :
    Calls Try.prog 33 #[.slice (some ⟨b, o, none⟩) n c] w (fun e w' => e = .returned (.int .i64 (sumV f n)) ∧ w' = w) := by
  have HB := Lib.hid (sumK_bd hf hn)
  have HF := Lib.hid hf
  have HR := Lib.hid hr
  clear hf hr
  go_enter Try.func33, Try.ntmps33
  go_wp2_with fail
  go_loopw [3, 8] (fun s i wr => ∃ k : Nat, k ≤ n ∧ i = .int .i64 k ∧ s = .int .i64 (sumK f k) ∧ w = wr) (fun _ i _ => n - (intOf i).toNat)
  case atStart => exact ⟨0, by omega, rfl, rfl, rfl⟩
  case round =>
    obtain ⟨k, hk, rfl, rfl, rfl⟩ := hrel
    by_cases hlt : k < n
    · have kd : (k : Int) < (n : Int) := by omega
      have kk : IntKind.i64.wrap ((k : Int) + 1) = (k : Int) + 1 := IntWalk.i64_in _ (by omega)
      have hc := HR.out k hlt
      have hb := HB.out k (by omega)
      have hb2 := HB.out (k + 1) hlt
      have hv := HF.out k hlt
      have hm := mul_bd ((k : Int) + 1) (f k) 100 1000 (by omega) (by omega) hv.1 hv.2
      obtain ⟨x, hx⟩ : ∃ x, x = f k := ⟨_, rfl⟩
      obtain ⟨s, hs⟩ : ∃ s, s = sumK f k := ⟨_, rfl⟩
      obtain ⟨s2, hs2⟩ : ∃ s, s = sumK f (k + 1) := ⟨_, rfl⟩
      obtain ⟨p, hp⟩ : ∃ p, p = ((k : Int) + 1) * x := ⟨_, rfl⟩
      have e2 : s2 = s + p := by rw [hs2, hs, hp, hx]; rfl
      rw [← hx] at hc hm
      rw [← hs] at hb
      rw [← hs2] at hb2
      rw [← hp] at hm
      have w1 : IntKind.i64.wrap (((k : Int) + 1) * x) = p := by rw [← hp]; exact IntWalk.i64_in _ (by omega)
      have w2 : IntKind.i64.wrap (s + p) = s2 := by rw [e2]; exact IntWalk.i64_in _ (by omega)
      have HS2 : Hid (sumK f (k + 1) = s2) := hs2.symm
      rw [← hs]
      clear hx hs hs2 hp e2 hm hv hb hb2
      go_wp2_with fail
      go_roundw
      case rel => exact ⟨k + 1, by omega, by go_num, by rw [HS2.out], trivial⟩
      case measure => simp [intOf]; omega
    · obtain rfl : n = k := by omega
      have hb := HB.out n (by omega)
      obtain ⟨s, hs⟩ : ∃ s, s = sumK f n := ⟨_, rfl⟩
      have HV : Hid (sumV f n = s % 101) := by show _ = _; rw [hs]; rfl
      rw [← hs] at hb ⊢
      have x1 : s.tmod 101 = s % 101 := Int.tmod_eq_emod_of_nonneg hb.1
      clear hs hb
      go_wp2
      go_ret
      exact ⟨by rw [HV.out]; rfl, rfl⟩
end Go.Proofs.Ytcadgjhfdolejaa
