/-
  The library's functions on lists of ints, as SpoolLeasesExclusive calls them. Own text.
-/
import Derived.Test.YtnnnihjagjfkdaaDoorLeaseV
import Derived.Test.YtnnnihjagjfkdaaDoorShelf
namespace Go.Proofs.YtnnnihjagjfkdaaDoor
open Go.RowKit
set_option linter.unusedVariables false
theorem less_any (x y : Int) (w : World) : Calls Tryd.prog 27 #[.int .i64 x, .int .i64 y] w fun e w' => e = .returned (.bool (decide (x < y))) ∧ w = w' :=
  (Tryd.cmp_Less_int2 x y w).mono fun e w' ⟨h1, h2⟩ => ⟨h1, h2.symm⟩
theorem Flat.cells {w : World} {b off : Nat} {xs : List Int} (h : Flat w 1 encInt (some ⟨b, off, none⟩) xs) : ∀ j, j < xs.length → w.cell? ⟨b, off + j, none⟩ = some (.int .i64 (xs.getD j 0)) := fun j hj => by
  obtain ⟨b1, off1, e, h1⟩ := h.int hj
  simp only [Option.some.injEq, Addr.mk.injEq, and_true] at e
  obtain ⟨rfl, rfl⟩ := e
  rw [h1, List.getD_eq_getElem?_getD, List.getElem?_eq_getElem hj]
  rfl
theorem contains_any (v : Value) (xs : List Int) (x : Int) (w : World) (B : Nat) (h : Own w B 3 1 encInt v xs) (hm : xs.length ≤ 1000) (r : Bool) (hr : xs.contains x = r) :
    Calls Tryd.prog 13 #[v, .int .i64 x] w fun e w' => e = .returned (.bool r) ∧ w = w' := by
  subst hr
  rcases h.2 with ⟨rfl, hn⟩ | ⟨g, cap, cur, rfl, _⟩
  · obtain rfl : xs = [] := List.eq_nil_of_length_eq_zero hn
    exact (Tryd.slices_Contains_int_empty none 0 x w).mono fun e w' ⟨h1, h2⟩ => ⟨h1, h2.symm⟩
  · obtain ⟨oa, c, e, _, hf⟩ := h.flat (fun _ => rfl)
    simp only [Value.slice.injEq] at e
    obtain ⟨rfl, _, rfl⟩ := e
    have hk := Tryd.slices_Contains_int g 0 xs.length cap xs x w (Nat.le_refl _) (by omega) hf.cells
    rw [List.take_length] at hk
    exact hk.mono fun e w' ⟨h1, h2⟩ => ⟨h1, h2.symm⟩
theorem equal_any (v u : Value) (xs : List Int) (w : World) (B B' : Nat) (h : Own w B 3 1 encInt v xs) (h' : Own w B' 3 1 encInt u xs) (hm : xs.length ≤ 1000) :
    Calls Tryd.prog 16 #[v, u] w fun e w' => e = .returned (.bool true) ∧ Below w.heap.size w w' := by
  rcases h.2 with ⟨rfl, hn⟩ | ⟨g, cap, cur, rfl, _⟩
  · obtain rfl : xs = [] := List.eq_nil_of_length_eq_zero hn
    obtain ⟨oa, c, rfl, _, hf⟩ := h'.flat (fun _ => rfl)
    exact (Tryd.slices_Equal_int_empty none oa 0 0 c w (by omega)).mono fun e w' ⟨h1, h2⟩ => ⟨h1, by rw [h2]; exact Below.refl _ _⟩
  · obtain ⟨oa, c, e, _, hf⟩ := h.flat (fun _ => rfl)
    simp only [Value.slice.injEq] at e
    obtain ⟨rfl, _, rfl⟩ := e
    rcases h'.2 with ⟨rfl, hn⟩ | ⟨g', cap', cur', rfl, hrow⟩
    · obtain rfl : xs = [] := List.eq_nil_of_length_eq_zero hn
      exact (Tryd.slices_Equal_int_empty _ none cap 0 0 w (by omega)).mono fun e w' ⟨h1, h2⟩ => ⟨h1, by rw [h2]; exact Below.refl _ _⟩
    · obtain ⟨oa', c', e', _, hf'⟩ := h'.flat (fun _ => rfl)
      simp only [Value.slice.injEq] at e'
      obtain ⟨rfl, _, rfl⟩ := e'
      have hk := Tryd.slices_Equal_int g 0 xs.length cap g' 0 xs.length cap' xs xs w (Nat.le_refl _) (Nat.le_refl _) (by omega) (by omega) hf.cells hf'.cells
      rw [List.take_length] at hk
      refine hk.mono fun e w' ⟨h1, q, h2⟩ => ⟨?_, ?_⟩
      · rw [h1]; simp
      · rw [h2]; exact bdrewN (Below.refl _ _) q
set_option maxHeartbeats 1000000 in
theorem sorted_any (oa : Option Addr) (xs : List Int) (cap : Nat) (w : World) (hf : Flat w 1 encInt oa xs) (hn : 0 < xs.length) (hm : xs.length ≤ 1000) (hs : ∀ i (h : i + 1 < xs.length), xs[i] ≤ xs[i + 1]) :
    Calls Tryd.prog 14 #[.slice oa xs.length cap] w fun e w' => e = .returned (.bool true) ∧ Below w.heap.size w w' := by
  obtain ⟨b, off, rfl, _⟩ := hf.int hn
  have HF := Lib.hid hf
  have HS := Lib.hid hs
  obtain ⟨n, hnn⟩ : ∃ n, n = xs.length := ⟨_, rfl⟩
  have HN := Lib.hid hnn
  rw [← hnn] at hn hm ⊢
  clear hf hs hnn
  have x1 : IntKind.i64.wrap ((n : Int) - 1) = (n : Int) - 1 := IntWalk.i64_in _ (by omega)
  go_enter Tryd.func14, Tryd.ntmps14
  go_wp2
  go_loopw [3] (fun i wr => ∃ k : Nat, k < n ∧ i = .int .i64 k ∧ ∃ q, wr = w.drewN q) (fun i _ => (intOf i).toNat)
  case atStart => exact ⟨n - 1, by omega, by rw [show ((n - 1 : Nat) : Int) = (n : Int) - 1 by omega], 0, by rfl⟩
  case round =>
    obtain ⟨k, hk, rfl, q, rfl⟩ := hrel
    by_cases h0 : k = 0
    · subst h0
      go_wp2
      go_ret
      exact ⟨rfl, bdrewN (Below.refl _ _) q⟩
    · obtain ⟨j, rfl⟩ : ∃ j, k = j + 1 := ⟨k - 1, by omega⟩
      have hj1 : j + 1 < xs.length := by have := HN.out; omega
      obtain ⟨b1, off1, e1, c1⟩ := HF.out.int hj1
      simp only [Option.some.injEq, Addr.mk.injEq, and_true] at e1
      obtain ⟨rfl, rfl⟩ := e1
      obtain ⟨b1, off1, e1, c0⟩ := HF.out.int (show j < xs.length by omega)
      simp only [Option.some.injEq, Addr.mk.injEq, and_true] at e1
      obtain ⟨rfl, rfl⟩ := e1
      have hle := HS.out j hj1
      obtain ⟨x, hx⟩ : ∃ x, x = xs[j] := ⟨_, rfl⟩
      obtain ⟨y, hy⟩ : ∃ y, y = xs[j + 1] := ⟨_, rfl⟩
      rw [← hx] at c0 hle
      rw [← hy] at c1 hle
      have d0 : (w.drewN q).cell? ⟨b, off + j, none⟩ = some (.int .i64 x) := c0
      have d1 : (w.drewN q).cell? ⟨b, off + (j + 1), none⟩ = some (.int .i64 y) := c1
      have HLS : Hid (∀ W, Calls Tryd.prog 27 #[.int .i64 y, .int .i64 x] W fun e w' => e = .returned (.bool false) ∧ W = w') := fun W => by
        have h := less_any y x W
        rw [show decide (y < x) = false by simpa using hle] at h
        exact h
      have hc : ((j + 1 : Nat) : Int) = (j : Int) + 1 := by omega
      have x2 : IntKind.i64.wrap ((j : Int) + 1 - 1) = (j : Int) := by rw [show (j : Int) + 1 - 1 = (j : Int) by omega]; exact IntWalk.i64_in _ (by omega)
      have k1 : (j : Int) + 1 < (n : Int) := by omega
      have k2 : (j : Int) < (n : Int) := by omega
      have k0 : (0 : Int) ≤ (j : Int) := by omega
      have k3 : (0 : Int) ≤ (j : Int) + 1 := by omega
      have k4 : (0 : Int) < (j : Int) + 1 := by omega
      rw [hc]
      clear hx hy hle c0 c1 hj1 hc h0
      generalize hW : w.drewN q = W at *
      have HB : Hid (Below w.heap.size w W) := by rw [← hW]; exact bdrewN (Below.refl _ _) q
      have HW := Lib.hid hW
      clear hW
      go_wp2
      go_quiet ((go_at_call 27; exact quiet_eq (HLS.out _)))
      have HQ : Hid (∃ p, W.drewN nq = w.drewN p) := ⟨q + nq, by rw [← HW.out]; simp [World.drewN, Nat.add_assoc]⟩
      go_wp2
      go_roundw
      case rel => exact ⟨j, by omega, rfl, HQ.out⟩
      case measure => simp [intOf]
end Go.Proofs.YtnnnihjagjfkdaaDoor
